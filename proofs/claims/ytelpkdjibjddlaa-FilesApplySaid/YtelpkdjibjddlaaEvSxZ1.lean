/-
  SX: files' titles and right workspaces, by the program and by the document.
-/
import Derived.Test.YtelpkdjibjddlaaEvC0
namespace Go.Sx
open Go Go.Ev Go.RowKit Go.Proofs
set_option maxRecDepth 100000
set_option maxHeartbeats 4000000
def sp97 : Spec U1 := ⟨false,false,fun H args K => match args with
  | [.int .i32 c] => ∀ q,(q = true ↔ PlainC c) → K (.bool q) H
  | _ => False⟩
theorem k97 : SpecOk R1.T S1 97 sp97 := by
  intro H args K h; unfold sp97 at h; dsimp only at h; split at h
  · refine st C0_ok (by kernel_rfl : R1.T.fn 97 = some ⟨37,Try.f97.body.getD .skip,[.tmp 2]⟩) rfl rfl ?_
    (repeat' ((conv => whnf); all_goals first | assumption | with_reducible exact True.intro | with_reducible apply And.intro | (intro q; first | (exfalso; exact Bool.noConfusion q) | (exfalso; with_reducible exact q rfl) | subst q | (revert q; intro)) | ((with_reducible show _ = _); exact rfl)))
    all_goals (refine h _ ?_; clear h; unfold PlainC; grind)
  · exact h.elim
def sp96 : Spec U1 := ⟨false,false,fun H args K => match args with
  | [.int .i32 c] => ∀ q,(q = true ↔ ¬ PlainC c) → K (.bool q) H
  | _ => False⟩
theorem k96 : SpecOk R1.T S1 96 sp96 := by
  intro H args K h; unfold sp96 at h; dsimp only at h; split at h
  · refine st (addC_ok k97 C0_ok) (by kernel_rfl : R1.T.fn 96 = some ⟨6,Try.f96.body.getD .skip,[.tmp 2]⟩) rfl rfl ?_
    (repeat' ((conv => whnf); all_goals first | assumption | with_reducible exact True.intro | with_reducible apply And.intro | (intro q; first | (exfalso; exact Bool.noConfusion q) | (exfalso; with_reducible exact q rfl) | subst q | (revert q; intro)) | ((with_reducible show _ = _); exact rfl)))
    all_goals (refine h _ ?_; clear h; grind)
  · exact h.elim
def sp104 : Spec U1 := ⟨false,false,fun H args K => match args with
  | [.str x,.func 96 [] [],.bool true] => K (.int .i64 (badS ⟨⟨x⟩⟩)) H
  | _ => False⟩
theorem k104 : SpecOk R1.T S1 104 sp104 := by
  intro H args K h; unfold sp104 at h; dsimp only at h; split at h
  · rename_i x
    refine st (addC_ok k96 C0_ok) (by kernel_rfl : R1.T.fn 104 = some ⟨21,Try.f104.body.getD .skip,[.tmp 6]⟩) rfl rfl ?_
    (((repeat' ((conv => whnf); all_goals first | assumption | with_reducible exact True.intro | with_reducible apply And.intro | (intro q; first | (exfalso; exact Bool.noConfusion q) | (exfalso; with_reducible exact q rfl) | subst q | (replace q : false = false := q; clear q) | (replace q : true = true := q; clear q) | (revert q; intro)) | ((with_reducible show _ = _); exact rfl))); all_goals try (conv => whnf); all_goals simp only [eq_self,true_iff,Bool.false_eq_true,false_iff,ed_eta,fl_eta,pt_eta,B_mk,Int.toNat_natCast] at *; all_goals (try contradiction); all_goals try (refine Chk.mk ?_; omega)))
    refine ⟨Nat,fun i => ([(0,.str x),(1,.func 96 [] []),(2,.bool true),(10,.ptr 0 0)],[.siter x i]),fun i => NoB (fun b => ¬ PlainB b) x i,fun i => x.length - i,0,NoB.zero,?_,?_⟩
    · (repeat' ((conv => whnf); all_goals first | assumption | with_reducible exact True.intro | with_reducible apply And.intro | ((with_reducible show _ = _); exact rfl) | omega | trivial))
    · intro i hi
      (((repeat' ((conv => whnf); all_goals first | assumption | with_reducible exact True.intro | with_reducible apply And.intro | (intro q; first | (exfalso; exact Bool.noConfusion q) | (exfalso; with_reducible exact q rfl) | subst q | (replace q : false = false := q; clear q) | (replace q : true = true := q; clear q) | (revert q; intro)) | ((with_reducible show _ = _); exact rfl))); all_goals try (conv => whnf); all_goals simp only [eq_self,true_iff,Bool.false_eq_true,false_iff,ed_eta,fl_eta,pt_eta,B_mk,Int.toNat_natCast] at *; all_goals (try contradiction); all_goals try (refine Chk.mk ?_; omega)))
      · rename_i hl c w hd q hq ht
        have hb := List.getElem?_eq_getElem hl
        rw [badS_at (x := ⟨⟨x⟩⟩) hi hb (dec_bad (x := ⟨⟨x⟩⟩) hb (by rw [hd]; exact hq.1 ht))] at h
        exact h
      · rename_i hl c w hd q hq ht
        have hb := List.getElem?_eq_getElem hl
        obtain ⟨g1,g2⟩ := dec_plain (x := ⟨⟨x⟩⟩) hb (by rw [hd]; exact Decidable.not_not.1 fun g => ht (hq.2 g))
        rw [hd] at g2
        obtain rfl : w = 1 := g2
        refine ⟨i + 1,by omega,hi.step hb (not_not_intro g1),?_⟩
        (repeat' ((conv => whnf); all_goals first | assumption | with_reducible exact True.intro | with_reducible apply And.intro | ((with_reducible show _ = _); exact rfl) | omega | trivial))
      · conv => whnf
        rw [badS_none (x := ⟨⟨x⟩⟩) hi (by exact Nat.not_lt.1 (by assumption))] at h
        exact h
  · exact h.elim
def sp103 : Spec U1 := ⟨false,false,fun H args K => match args with
  | [.str x,.func 96 [] []] => K (.int .i64 (badS ⟨⟨x⟩⟩)) H
  | _ => False⟩
theorem k103 : SpecOk R1.T S1 103 sp103 := by
  intro H args K h; unfold sp103 at h; dsimp only at h; split at h
  · refine st (addC_ok k104 C0_ok) (by kernel_rfl : R1.T.fn 103 = some ⟨8,Try.f103.body.getD .skip,[.tmp 4]⟩) rfl rfl ?_
    (repeat' ((conv => whnf); all_goals first | assumption | with_reducible exact True.intro | with_reducible apply And.intro | (intro q; first | (exfalso; exact Bool.noConfusion q) | (exfalso; with_reducible exact q rfl) | subst q | (revert q; intro)) | ((with_reducible show _ = _); exact rfl)))
  · exact h.elim
def sp98 : Spec U1 := ⟨false,false,fun H args K => match args with
  | [.str x,.func 96 [] []] => ∀ q,(q = true ↔ 0 ≤ badS ⟨⟨x⟩⟩) → K (.bool q) H
  | _ => False⟩
theorem k98 : SpecOk R1.T S1 98 sp98 := by
  intro H args K h; unfold sp98 at h; dsimp only at h; split at h
  · refine st (addC_ok k103 C0_ok) (by kernel_rfl : R1.T.fn 98 = some ⟨9,Try.f98.body.getD .skip,[.tmp 4]⟩) rfl rfl ?_
    (repeat' ((conv => whnf); all_goals first | assumption | with_reducible exact True.intro | with_reducible apply And.intro | (intro q; first | (exfalso; exact Bool.noConfusion q) | (exfalso; with_reducible exact q rfl) | subst q | (revert q; intro)) | ((with_reducible show _ = _); exact rfl)))
    all_goals exact h _ (by assumption)
  · exact h.elim
def sp81 : Spec U1 := ⟨false,false,fun H args K => match args with
  | [.str x] => ∀ q,(q = true ↔ Titled ⟨⟨x⟩⟩) → K (.bool q) H
  | _ => False⟩
theorem k81 : SpecOk R1.T S1 81 sp81 := by
  intro H args K h; unfold sp81 at h; dsimp only at h; split at h
  · refine st (addC_ok k98 C0_ok) (by kernel_rfl : R1.T.fn 81 = some ⟨17,Try.f81.body.getD .skip,[.tmp 2]⟩) rfl rfl ?_
    (repeat' ((conv => whnf); all_goals first | assumption | with_reducible exact True.intro | with_reducible apply And.intro | (intro q; first | (exfalso; exact Bool.noConfusion q) | (exfalso; with_reducible exact q rfl) | subst q | (revert q; intro)) | ((with_reducible show _ = _); exact rfl)))
    all_goals conv => whnf
    all_goals (refine h _ ?_; clear h; unfold Titled; simp only [show B ByteArray.empty = [] from rfl,B_mk]; simp_all; try omega)
  · exact h.elim
def sp82 : Spec U1 := ⟨false,false,fun H args K => match args with
  | [.str x] => Chk (x.length ≤ 140737488351232) ∧ ∀ q,(q = true ↔ Titled ⟨⟨x⟩⟩) → K (.bool q) H
  | _ => False⟩
theorem k82 : SpecOk R1.T S1 82 sp82 := by
  intro H args K h; unfold sp82 at h; dsimp only at h; split at h
  · rename_i x
    obtain ⟨hx,h⟩ := h
    replace hx := hx.out
    refine st C0_ok (by kernel_rfl : R1.T.fn 82 = some ⟨57,Try.f82.body.getD .skip,[.tmp 2]⟩) rfl rfl ?_
    (((repeat' ((conv => whnf); all_goals first | assumption | with_reducible exact True.intro | with_reducible apply And.intro | (intro q; first | (exfalso; exact Bool.noConfusion q) | (exfalso; with_reducible exact q rfl) | subst q | (replace q : false = false := q; clear q) | (replace q : true = true := q; clear q) | (revert q; intro)) | ((with_reducible show _ = _); exact rfl))); all_goals try (conv => whnf); all_goals simp only [eq_self,true_iff,Bool.false_eq_true,false_iff,ed_eta,fl_eta,pt_eta,B_mk,Int.toNat_natCast] at *; all_goals (try contradiction); all_goals try (refine Chk.mk ?_; omega)))
    refine ⟨Nat,fun i => ([(0,.str x),(3,.int .i64 i)],[]),fun i => i ≤ x.length ∧ NoB (fun b => ¬ PlainB b) x i,fun i => x.length - i,0,⟨Nat.zero_le _,NoB.zero⟩,?_,?_⟩
    · (repeat' ((conv => whnf); all_goals first | assumption | with_reducible exact True.intro | with_reducible apply And.intro | ((with_reducible show _ = _); exact rfl) | omega | trivial))
    · intro i ⟨hi,hn⟩
      have bad : ∀ b,x[i]? = some b → ¬ PlainB b → K (.bool false) H := fun b hb hp => h false ⟨nofun,fun hT => by
        have := hT.2.2
        rw [badS_at (x := ⟨⟨x⟩⟩) hn hb hp] at this
        omega⟩
      have good : ∀ b,x[i]? = some b → PlainB b → NoB (fun b => ¬ PlainB b) x (i + 1) := fun b hb hp => hn.step hb (not_not_intro hp)
      have hw : (i : Int) < x.length → wr .i64 ((i : Int) + 1) = (i : Int) + 1 := fun _ => wr64 (by omega)
      have end0 : ∀ q,¬ (i : Int) < x.length → (q = true ↔ ¬ x = [] ∧ (x.length : Int) ≤ 40) → K (.bool q) H := fun q hi2 hq => h q (hq.trans ⟨fun g => ⟨g.1,g.2,by rw [badS_none (x := ⟨⟨x⟩⟩) hn (by show x.length ≤ i; omega)]; decide⟩,fun g => ⟨g.1,g.2.1⟩⟩)
      have hl0 : x = [] ↔ (x.length : Int) = 0 := ⟨fun g => by rw [g]; rfl,fun g => List.length_eq_zero_iff.1 (by omega)⟩
      clear h
      (((repeat' ((conv => whnf); all_goals first | assumption | with_reducible exact True.intro | with_reducible apply And.intro | (intro q; first | (exfalso; exact Bool.noConfusion q) | (exfalso; with_reducible exact q rfl) | subst q | (replace q : false = false := q; clear q) | (replace q : true = true := q; clear q) | (revert q; intro)) | ((with_reducible show _ = _); exact rfl))); all_goals try (conv => whnf); all_goals simp only [eq_self,true_iff,Bool.false_eq_true,false_iff,ed_eta,fl_eta,pt_eta,B_mk,Int.toNat_natCast] at *; all_goals (try contradiction); all_goals try (refine Chk.mk ?_; omega)))
      all_goals first
        | exact bad _ (by assumption) (by unfold PlainB PlainC; omega)
        | (refine ⟨i + 1,by omega,⟨by omega,good _ (by assumption) (by unfold PlainB PlainC; omega)⟩,?_⟩; rw [hw (by assumption)]; (repeat' ((conv => whnf); all_goals first | assumption | with_reducible exact True.intro | with_reducible apply And.intro | ((with_reducible show _ = _); exact rfl) | omega | trivial)); done)
        | (rename_i q hq h1 h2; exact end0 q h1 ⟨fun g => ⟨fun e => by have := hl0.1 e; omega,hq.1 g⟩,fun g => hq.2 g.2⟩)
        | (rename_i h1 h2; exact end0 false h1 ⟨nofun,fun g => absurd (hl0.2 (by omega)) g.1⟩)
  · exact h.elim
end Go.Sx

