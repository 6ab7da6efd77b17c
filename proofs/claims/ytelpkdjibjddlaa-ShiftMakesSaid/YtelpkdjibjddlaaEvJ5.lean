/-
  SX: the one list of two.
-/
import Derived.Test.YtelpkdjibjddlaaEvJ4
import Derived.Test.YtelpkdjibjddlaaEvJL
set_option linter.unusedSimpArgs false
set_option linter.unusedVariables false
namespace Go.Sx
open Go Go.Ev Go.RowKit Go.Proofs
set_option maxRecDepth 100000
set_option maxHeartbeats 100000000
def sp55 : Spec U1 := ⟨false,false,fun H args K => match args with
  | [.sl 0 a,.sl 0 b,.int .i64 n] => Chk (JOk a b n) ∧ (¬ Right a n → K (.tup [.sl 0 [],.iface 37 (.int .i64 2)]) H) ∧ (Right a n → ¬ Right b (n + growS a) → K (.tup [.sl 0 [],.iface 37 (.int .i64 2)]) H) ∧ (Right a n → Right b (n + growS a) → K (.tup [.sl 0 (joinS a b n),.nilI]) H)
  | _ => False⟩
abbrev C68 := addC 35 spRightN (addC 65 sp65 C0)
theorem C68_ok : COk C68 := addC_ok j35 (addC_ok k65 C0_ok)
abbrev C55 := addC 34 sp34 (addC 21 sp21 (addC 26 (liftedN sp26) (addC 17 sp17j (addC 86 (liftedN sp86) C0))))
theorem C55_ok : COk C55 := addC_ok k34 (addC_ok k21 (addC_ok (liftedN_ok k26L) (addC_ok k17j (addC_ok (liftedN_ok k86L) C0_ok))))
noncomputable abbrev I55 : Its U1 := addI 68 (inl S1 C68 36 (Try.f68.body.getD .skip) []) I0
theorem I55_ok : IOk I55 := addI_ok C68_ok (by kernel_rfl : R1.T.fn 68 = some ⟨36,Try.f68.body.getD .skip,[]⟩) I0_ok
def hpJ (a b : List Ed) (n n1 g : Int) (st : LoopState) (r0 : Loop) (out : List Ed) (x u : Int) (tail : Hp U1) : Hp U1 := match out with
  | [] => [.cells false 22 [.sl 0 b],.cells false 3 [.int .i64 n],.cells false 3 [.int .i64 g],.cells false 129 [.sl 0 a,.sl 3 (spansS a),.sl 0 b,.sl 3 (spansS b),.int .i64 n1,.nilS],.cells false 125 [.ptr 3 0],.cells false 3 [.int .i64 x],.cells false 3 [.int .i64 u],.cells false 22 [.sl 0 a],.cells false 3 [.int .i64 n],.loop r0 st none] ++ tail
  | e :: l => [.cells false 22 [.sl 0 b],.cells false 3 [.int .i64 n],.cells false 3 [.int .i64 g],.cells false 129 [.sl 0 a,.sl 3 (spansS a),.sl 0 b,.sl 3 (spansS b),.int .i64 n1,.ol 10],.cells false 125 [.ptr 3 0],.cells false 3 [.int .i64 x],.cells false 3 [.int .i64 u],.cells false 22 [.sl 0 a],.cells false 3 [.int .i64 n],.loop r0 st none,.list false false 97 0 (e :: l)] ++ tail
def endJ {α : Type} : List α → Nat
  | [] => 10
  | _ :: _ => 11
theorem W1 {x : Int} (h1 : -1000000 ≤ x) (h2 : x ≤ 1000000) : wr IntKind.i64 x = x := W_id (by omega) (by omega)
theorem k55 : SpecOk R1.T S1 55 sp55 := by
  intro H args K h; unfold sp55 at h; dsimp only at h; split at h
  · rename_i a b n
    obtain ⟨hj,h1,h2,h3⟩ := h
    replace hj := hj.out
    have hj' := hj
    obtain ⟨ja,jb,jsa,jsb,jn⟩ := hj'
    have hrb : Right a n → ¬ Right b (wr IntKind.i64 (n + W (growS a))) → ¬ Right b (n + growS a) := fun hR h hb => h (by
      obtain ⟨hb1,hb2,hb3⟩ := grow_bd hR
      rw [W_id (x := growS a) (by omega) (by omega),W1 (by omega) (by omega)]
      exact hb)
    refine CallOk.resNil 0 ?_
    refine stI C55_ok I55_ok (by kernel_rfl : R1.T.fn 55 = some ⟨111,Try.f55.body.getD .skip,[.tmp 6,.tmp 7]⟩) rfl rfl ?_
    (((repeat' ((conv => whnf); all_goals first | assumption | with_reducible exact True.intro | with_reducible apply And.intro | (intro q; first | (exfalso; exact Bool.noConfusion q) | (exfalso; with_reducible exact q rfl) | subst q | (replace q : false = false := q; clear q) | (replace q : true = true := q; clear q) | (revert q; intro)) | ((with_reducible show _ = _); exact rfl))); all_goals try (conv => whnf); all_goals simp only [eq_self,true_iff,Bool.false_eq_true,false_iff,ed_eta,fl_eta,pt_eta,B_mk,Int.toNat_natCast] at *; all_goals (try contradiction); all_goals try (refine Chk.mk ?_; omega)))
    · exact Chk.mk (Nat.le_trans jb (by decide))
    · exact Chk.mk (Nat.le_trans ja (by decide))
    · have hR : Right a n := by assumption
      obtain ⟨hb1,hb2,hb3⟩ := grow_bd hR
      have hW : W (growS a) = growS a := W_id (by omega) (by omega)
      have hn1 : wr IntKind.i64 (n + growS a) = n + growS a := W_id (by omega) (by omega)
      have hRb : Right b (n + growS a) := by
        have : Right b (wr IntKind.i64 (n + W (growS a))) := by assumption
        rwa [hW,hn1] at this
      obtain ⟨hc1,hc2,hc3⟩ := grow_bd hRb
      have hrl : (runsS a n).length ≤ 32 := by rw [runsS_len]; exact Nat.succ_le_succ ja
      rw [hW,hn1]
      rename_i r0 _ _
      refine ⟨Nat × List Ed × Int × Int,fun y => ([(0,.yld 9),(1,.ptr 7 0),(2,.ptr 8 0),(13,.sl 2 (runsS a n)),(14,.int .i64 (runsS a n).length),(15,.int .i64 y.1)],hpJ a b n (n + growS a) (growS a) .ready r0 y.2.1 y.2.2.1 y.2.2.2 []),fun y => y.1 ≤ (runsS a n).length ∧ y.2 = joinF a b (n + growS a) ((keptS a n).take (kpos (runsS a n) y.1)),fun y => (runsS a n).length - y.1,(0,[],0,0),⟨Nat.zero_le _,rfl⟩,?_,?_⟩
      · (((with_reducible refine covers_n ?_); repeat' ((conv => whnf); all_goals first | with_reducible exact True.intro | with_reducible apply And.intro | ((with_reducible show _ = _); with_reducible exact rfl) | with_reducible assumption | omega | ((with_reducible show _ = _); exact rfl) | assumption)))
      · intro ⟨i,out,x,u⟩ ⟨hi,hst⟩
        dsimp only at hi hst
        cases out with
        | nil =>
          (((repeat' ((conv => whnf); all_goals first | assumption | with_reducible exact True.intro | with_reducible apply And.intro | (intro q; first | (exfalso; exact Bool.noConfusion q) | (exfalso; with_reducible exact q rfl) | subst q | (replace q : false = false := q; clear q) | (replace q : true = true := q; clear q) | (revert q; intro)) | ((with_reducible show _ = _); exact rfl))); all_goals try (conv => whnf); all_goals simp only [eq_self,true_iff,Bool.false_eq_true,false_iff,ed_eta,fl_eta,pt_eta,B_mk,Int.toNat_natCast] at *; all_goals (try contradiction); all_goals try (refine Chk.mk ?_; omega)))
          · rename_i r hr _
            obtain ⟨hr1,hr2,hr3⟩ := runIn hR hr
            have hri := (List.getElem?_eq_some_iff.1 hr).1
            refine ⟨Nat × List Ed × Int × Int,fun y => ([(0,.yld 9),(1,.ptr 7 0),(2,.ptr 8 0),(13,.sl 2 (runsS a n)),(14,.int .i64 (runsS a n).length),(15,.int .i64 i),(5,.ptr (endJ y.2.1) 0),(6,.int .i64 (r.fr + (y.1 : Int)))],hpJ a b n (n + growS a) (growS a) .ready r0 y.2.1 y.2.2.1 y.2.2.2 [.cells false 101 [.int .i64 r.fr,.int .i64 r.to,.int .i64 r.by']]),fun y => r.fr + (y.1 : Int) ≤ r.to ∧ y.2 = joinF a b (n + growS a) ((keptS a n).take (kpos (runsS a n) i + y.1)),fun y => (r.to - r.fr).toNat - y.1,(0,[],x,u),⟨by simp only; omega,hst⟩,?_,?_⟩
            · (((with_reducible refine covers_n ?_); repeat' ((conv => whnf); all_goals first | with_reducible exact True.intro | with_reducible apply And.intro | ((with_reducible show _ = _); with_reducible exact rfl) | with_reducible assumption | omega | ((with_reducible show _ = _); exact rfl) | assumption)))
            · intro ⟨j,out,x,u⟩ ⟨hj1,hst⟩
              dsimp only at hj1 hst
              cases out with
              | nil =>
                have hb := join_in hj hR hRb hr hj1 hst
                (((repeat' ((conv => whnf); all_goals first | assumption | with_reducible exact True.intro | with_reducible apply And.intro | (intro q; first | (exfalso; exact Bool.noConfusion q) | (exfalso; with_reducible exact q rfl) | subst q | (replace q : false = false := q; clear q) | (replace q : true = true := q; clear q) | (revert q; intro)) | ((with_reducible show _ = _); exact rfl))); all_goals try (conv => whnf); all_goals simp only [eq_self,true_iff,Bool.false_eq_true,false_iff,ed_eta,fl_eta,pt_eta,B_mk,Int.toNat_natCast] at *; all_goals (try contradiction); all_goals try (refine Chk.mk ?_; omega)))
                all_goals rw [hn1] at *
                · exact Chk.mk hRb
                · have h0 : (goS b (n + growS a) (wr .i64 (r.fr + (j : Int) + r.by'))).2 = 0 := by assumption
                  obtain ⟨_,g,hg1,_,hg2⟩ := go_bd hRb (by omega) (by omega) h0
                  exact Chk.mk (gap_ok hj hR hRb hb.2.1.1 (by omega))
                · have h0 : (goS b (n + growS a) (wr .i64 (r.fr + (j : Int) + r.by'))).2 = 0 := by assumption
                  have hlt : r.fr + (j : Int) < r.to := by assumption
                  obtain ⟨_,g,hg1,_,hg2⟩ := go_bd hRb (by omega) (by omega) h0
                  have e1 := join_at hr hlt hst
                  rw [join_go h0,gapPut_pos (by assumption)] at e1
                  refine ⟨(j + 1,[] ++ [gapE a (spansS a) b (spansS b) (n + growS a) x (r.fr + (j : Int)) u (goS b (n + growS a) (wr .i64 (r.fr + (j : Int) + r.by'))).1],r.fr + (j : Int) + 1,(goS b (n + growS a) (wr .i64 (r.fr + (j : Int) + r.by'))).1 + 1),by simp only; omega,⟨by simp only; omega,e1.symm⟩,?_⟩
                  rw [W1 (x := r.fr + (j : Int) + 1) (by omega) (by omega),W1 (x := (goS b (n + growS a) (wr .i64 (r.fr + (j : Int) + r.by'))).1 + 1) (by omega) (by omega)]
                  (((with_reducible refine covers_n ?_); repeat' ((conv => whnf); all_goals first | with_reducible exact True.intro | with_reducible apply And.intro | ((with_reducible show _ = _); with_reducible exact rfl) | with_reducible assumption | omega | ((with_reducible show _ = _); exact rfl) | assumption)))
                · have h0 : (goS b (n + growS a) (wr .i64 (r.fr + (j : Int) + r.by'))).2 = 0 := by assumption
                  have hlt : r.fr + (j : Int) < r.to := by assumption
                  obtain ⟨_,g,hg1,_,hg2⟩ := go_bd hRb (by omega) (by omega) h0
                  have e1 := join_at hr hlt hst
                  rw [join_go h0,gapPut_neg (by assumption)] at e1
                  refine ⟨(j + 1,[],r.fr + (j : Int) + 1,(goS b (n + growS a) (wr .i64 (r.fr + (j : Int) + r.by'))).1 + 1),by simp only; omega,⟨by simp only; omega,e1.symm⟩,?_⟩
                  rw [W1 (x := r.fr + (j : Int) + 1) (by omega) (by omega),W1 (x := (goS b (n + growS a) (wr .i64 (r.fr + (j : Int) + r.by'))).1 + 1) (by omega) (by omega)]
                  (((with_reducible refine covers_n ?_); repeat' ((conv => whnf); all_goals first | with_reducible exact True.intro | with_reducible apply And.intro | ((with_reducible show _ = _); with_reducible exact rfl) | with_reducible assumption | omega | ((with_reducible show _ = _); exact rfl) | assumption)))
                · have h0 : ¬ (goS b (n + growS a) (wr .i64 (r.fr + (j : Int) + r.by'))).2 = 0 := by assumption
                  have hlt : r.fr + (j : Int) < r.to := by assumption
                  have e1 := join_at hr hlt hst
                  rw [join_no h0] at e1
                  refine ⟨(j + 1,[],x,u),by simp only; omega,⟨by simp only; omega,e1.symm⟩,?_⟩
                  rw [W1 (x := r.fr + (j : Int) + 1) (by omega) (by omega)]
                  (((with_reducible refine covers_n ?_); repeat' ((conv => whnf); all_goals first | with_reducible exact True.intro | with_reducible apply And.intro | ((with_reducible show _ = _); with_reducible exact rfl) | with_reducible assumption | omega | ((with_reducible show _ = _); exact rfl) | assumption)))
                · have hjj : j = (r.to - r.fr).toNat := by omega
                  refine ⟨(i + 1,[],x,u),by simp only; omega,⟨by simp only; omega,?_⟩,?_⟩
                  · rw [kpos_step hr,← hjj]; exact hst
                  · rw [W1 (x := (i : Int) + 1) (by omega) (by omega)]
                    (((with_reducible refine covers_n ?_); repeat' ((conv => whnf); all_goals first | with_reducible exact True.intro | with_reducible apply And.intro | ((with_reducible show _ = _); with_reducible exact rfl) | with_reducible assumption | omega | ((with_reducible show _ = _); exact rfl) | assumption)))
              | cons e l =>
                have hb := join_in hj hR hRb hr hj1 hst
                (((repeat' ((conv => whnf); all_goals first | assumption | with_reducible exact True.intro | with_reducible apply And.intro | (intro q; first | (exfalso; exact Bool.noConfusion q) | (exfalso; with_reducible exact q rfl) | subst q | (replace q : false = false := q; clear q) | (replace q : true = true := q; clear q) | (revert q; intro)) | ((with_reducible show _ = _); exact rfl))); all_goals try (conv => whnf); all_goals simp only [eq_self,true_iff,Bool.false_eq_true,false_iff,ed_eta,fl_eta,pt_eta,B_mk,Int.toNat_natCast] at *; all_goals (try contradiction); all_goals try (refine Chk.mk ?_; omega)))
                all_goals rw [hn1] at *
                · exact Chk.mk hRb
                · have h0 : (goS b (n + growS a) (wr .i64 (r.fr + (j : Int) + r.by'))).2 = 0 := by assumption
                  obtain ⟨_,g,hg1,_,hg2⟩ := go_bd hRb (by omega) (by omega) h0
                  exact Chk.mk (gap_ok hj hR hRb hb.2.1.1 (by omega))
                · have h0 : (goS b (n + growS a) (wr .i64 (r.fr + (j : Int) + r.by'))).2 = 0 := by assumption
                  have hlt : r.fr + (j : Int) < r.to := by assumption
                  obtain ⟨_,g,hg1,_,hg2⟩ := go_bd hRb (by omega) (by omega) h0
                  have e1 := join_at hr hlt hst
                  rw [join_go h0,gapPut_pos (by assumption)] at e1
                  refine ⟨(j + 1,(e :: l) ++ [gapE a (spansS a) b (spansS b) (n + growS a) x (r.fr + (j : Int)) u (goS b (n + growS a) (wr .i64 (r.fr + (j : Int) + r.by'))).1],r.fr + (j : Int) + 1,(goS b (n + growS a) (wr .i64 (r.fr + (j : Int) + r.by'))).1 + 1),by simp only; omega,⟨by simp only; omega,e1.symm⟩,?_⟩
                  rw [W1 (x := r.fr + (j : Int) + 1) (by omega) (by omega),W1 (x := (goS b (n + growS a) (wr .i64 (r.fr + (j : Int) + r.by'))).1 + 1) (by omega) (by omega)]
                  (((with_reducible refine covers_n ?_); repeat' ((conv => whnf); all_goals first | with_reducible exact True.intro | with_reducible apply And.intro | ((with_reducible show _ = _); with_reducible exact rfl) | with_reducible assumption | omega | ((with_reducible show _ = _); exact rfl) | assumption)))
                · have h0 : (goS b (n + growS a) (wr .i64 (r.fr + (j : Int) + r.by'))).2 = 0 := by assumption
                  have hlt : r.fr + (j : Int) < r.to := by assumption
                  obtain ⟨_,g,hg1,_,hg2⟩ := go_bd hRb (by omega) (by omega) h0
                  have e1 := join_at hr hlt hst
                  rw [join_go h0,gapPut_neg (by assumption)] at e1
                  refine ⟨(j + 1,(e :: l),r.fr + (j : Int) + 1,(goS b (n + growS a) (wr .i64 (r.fr + (j : Int) + r.by'))).1 + 1),by simp only; omega,⟨by simp only; omega,e1.symm⟩,?_⟩
                  rw [W1 (x := r.fr + (j : Int) + 1) (by omega) (by omega),W1 (x := (goS b (n + growS a) (wr .i64 (r.fr + (j : Int) + r.by'))).1 + 1) (by omega) (by omega)]
                  (((with_reducible refine covers_n ?_); repeat' ((conv => whnf); all_goals first | with_reducible exact True.intro | with_reducible apply And.intro | ((with_reducible show _ = _); with_reducible exact rfl) | with_reducible assumption | omega | ((with_reducible show _ = _); exact rfl) | assumption)))
                · have h0 : ¬ (goS b (n + growS a) (wr .i64 (r.fr + (j : Int) + r.by'))).2 = 0 := by assumption
                  have hlt : r.fr + (j : Int) < r.to := by assumption
                  have e1 := join_at hr hlt hst
                  rw [join_no h0] at e1
                  refine ⟨(j + 1,(e :: l),x,u),by simp only; omega,⟨by simp only; omega,e1.symm⟩,?_⟩
                  rw [W1 (x := r.fr + (j : Int) + 1) (by omega) (by omega)]
                  (((with_reducible refine covers_n ?_); repeat' ((conv => whnf); all_goals first | with_reducible exact True.intro | with_reducible apply And.intro | ((with_reducible show _ = _); with_reducible exact rfl) | with_reducible assumption | omega | ((with_reducible show _ = _); exact rfl) | assumption)))
                · have hjj : j = (r.to - r.fr).toNat := by omega
                  refine ⟨(i + 1,(e :: l),x,u),by simp only; omega,⟨by simp only; omega,?_⟩,?_⟩
                  · rw [kpos_step hr,← hjj]; exact hst
                  · rw [W1 (x := (i : Int) + 1) (by omega) (by omega)]
                    (((with_reducible refine covers_n ?_); repeat' ((conv => whnf); all_goals first | with_reducible exact True.intro | with_reducible apply And.intro | ((with_reducible show _ = _); with_reducible exact rfl) | with_reducible assumption | omega | ((with_reducible show _ = _); exact rfl) | assumption)))
          · have hjo := join_end hi (by omega) hst
            refine ⟨.tup [],hpJ a b n (n + growS a) (growS a) .ready r0 [] x u [],?_,?_⟩
            · (((with_reducible refine covers_n ?_); repeat' ((conv => whnf); all_goals first | with_reducible exact True.intro | with_reducible apply And.intro | ((with_reducible show _ = _); with_reducible exact rfl) | with_reducible assumption | omega | ((with_reducible show _ = _); exact rfl) | assumption)))
            · skip
              have hbo := join_bd hj hR hRb (kpos (runsS a n) i) kpos_le
              rw [← hst] at hbo
              have hK := h3 hR hRb
              rw [hjo] at hK
              have hWb : W (growS b) = growS b := W_id (by omega) (by omega)
              (((repeat' ((conv => whnf); all_goals first | assumption | with_reducible exact True.intro | with_reducible apply And.intro | (intro q; first | (exfalso; exact Bool.noConfusion q) | (exfalso; with_reducible exact q rfl) | subst q | (replace q : false = false := q; clear q) | (replace q : true = true := q; clear q) | (revert q; intro)) | ((with_reducible show _ = _); exact rfl))); all_goals try (conv => whnf); all_goals simp only [eq_self,true_iff,Bool.false_eq_true,false_iff,ed_eta,fl_eta,pt_eta,B_mk,Int.toNat_natCast] at *; all_goals (try contradiction); all_goals try (refine Chk.mk ?_; omega)))
              all_goals try exact Chk.mk (Nat.le_trans hbo.2.2 (Nat.le_trans kpos_le (Nat.le_trans (keptS_len hR jn ja) (by decide : 16000 ≤ 1000000))))
              · rw [hn1,hWb,W1 (x := n + growS a + growS b) (by omega) (by omega)]
                exact Chk.mk (gap_ok hj hR hRb hbo.2.1.1 (by omega))
              · rename_i hg
                rw [hn1,hWb,W1 (x := n + growS a + growS b) (by omega) (by omega)] at hg ⊢
                rw [gapPut_pos hg] at hK
                exact hK
              · rename_i hg
                rw [hn1,hWb,W1 (x := n + growS a + growS b) (by omega) (by omega)] at hg
                rw [gapPut_neg hg] at hK
                exact hK
        | cons e l =>
          (((repeat' ((conv => whnf); all_goals first | assumption | with_reducible exact True.intro | with_reducible apply And.intro | (intro q; first | (exfalso; exact Bool.noConfusion q) | (exfalso; with_reducible exact q rfl) | subst q | (replace q : false = false := q; clear q) | (replace q : true = true := q; clear q) | (revert q; intro)) | ((with_reducible show _ = _); exact rfl))); all_goals try (conv => whnf); all_goals simp only [eq_self,true_iff,Bool.false_eq_true,false_iff,ed_eta,fl_eta,pt_eta,B_mk,Int.toNat_natCast] at *; all_goals (try contradiction); all_goals try (refine Chk.mk ?_; omega)))
          · rename_i r hr _
            obtain ⟨hr1,hr2,hr3⟩ := runIn hR hr
            have hri := (List.getElem?_eq_some_iff.1 hr).1
            refine ⟨Nat × List Ed × Int × Int,fun y => ([(0,.yld 9),(1,.ptr 7 0),(2,.ptr 8 0),(13,.sl 2 (runsS a n)),(14,.int .i64 (runsS a n).length),(15,.int .i64 i),(5,.ptr (endJ y.2.1) 0),(6,.int .i64 (r.fr + (y.1 : Int)))],hpJ a b n (n + growS a) (growS a) .ready r0 y.2.1 y.2.2.1 y.2.2.2 [.cells false 101 [.int .i64 r.fr,.int .i64 r.to,.int .i64 r.by']]),fun y => r.fr + (y.1 : Int) ≤ r.to ∧ y.2 = joinF a b (n + growS a) ((keptS a n).take (kpos (runsS a n) i + y.1)),fun y => (r.to - r.fr).toNat - y.1,(0,(e :: l),x,u),⟨by simp only; omega,hst⟩,?_,?_⟩
            · (((with_reducible refine covers_n ?_); repeat' ((conv => whnf); all_goals first | with_reducible exact True.intro | with_reducible apply And.intro | ((with_reducible show _ = _); with_reducible exact rfl) | with_reducible assumption | omega | ((with_reducible show _ = _); exact rfl) | assumption)))
            · intro ⟨j,out,x,u⟩ ⟨hj1,hst⟩
              dsimp only at hj1 hst
              cases out with
              | nil =>
                have hb := join_in hj hR hRb hr hj1 hst
                (((repeat' ((conv => whnf); all_goals first | assumption | with_reducible exact True.intro | with_reducible apply And.intro | (intro q; first | (exfalso; exact Bool.noConfusion q) | (exfalso; with_reducible exact q rfl) | subst q | (replace q : false = false := q; clear q) | (replace q : true = true := q; clear q) | (revert q; intro)) | ((with_reducible show _ = _); exact rfl))); all_goals try (conv => whnf); all_goals simp only [eq_self,true_iff,Bool.false_eq_true,false_iff,ed_eta,fl_eta,pt_eta,B_mk,Int.toNat_natCast] at *; all_goals (try contradiction); all_goals try (refine Chk.mk ?_; omega)))
                all_goals rw [hn1] at *
                · exact Chk.mk hRb
                · have h0 : (goS b (n + growS a) (wr .i64 (r.fr + (j : Int) + r.by'))).2 = 0 := by assumption
                  obtain ⟨_,g,hg1,_,hg2⟩ := go_bd hRb (by omega) (by omega) h0
                  exact Chk.mk (gap_ok hj hR hRb hb.2.1.1 (by omega))
                · have h0 : (goS b (n + growS a) (wr .i64 (r.fr + (j : Int) + r.by'))).2 = 0 := by assumption
                  have hlt : r.fr + (j : Int) < r.to := by assumption
                  obtain ⟨_,g,hg1,_,hg2⟩ := go_bd hRb (by omega) (by omega) h0
                  have e1 := join_at hr hlt hst
                  rw [join_go h0,gapPut_pos (by assumption)] at e1
                  refine ⟨(j + 1,[] ++ [gapE a (spansS a) b (spansS b) (n + growS a) x (r.fr + (j : Int)) u (goS b (n + growS a) (wr .i64 (r.fr + (j : Int) + r.by'))).1],r.fr + (j : Int) + 1,(goS b (n + growS a) (wr .i64 (r.fr + (j : Int) + r.by'))).1 + 1),by simp only; omega,⟨by simp only; omega,e1.symm⟩,?_⟩
                  rw [W1 (x := r.fr + (j : Int) + 1) (by omega) (by omega),W1 (x := (goS b (n + growS a) (wr .i64 (r.fr + (j : Int) + r.by'))).1 + 1) (by omega) (by omega)]
                  (((with_reducible refine covers_n ?_); repeat' ((conv => whnf); all_goals first | with_reducible exact True.intro | with_reducible apply And.intro | ((with_reducible show _ = _); with_reducible exact rfl) | with_reducible assumption | omega | ((with_reducible show _ = _); exact rfl) | assumption)))
                · have h0 : (goS b (n + growS a) (wr .i64 (r.fr + (j : Int) + r.by'))).2 = 0 := by assumption
                  have hlt : r.fr + (j : Int) < r.to := by assumption
                  obtain ⟨_,g,hg1,_,hg2⟩ := go_bd hRb (by omega) (by omega) h0
                  have e1 := join_at hr hlt hst
                  rw [join_go h0,gapPut_neg (by assumption)] at e1
                  refine ⟨(j + 1,[],r.fr + (j : Int) + 1,(goS b (n + growS a) (wr .i64 (r.fr + (j : Int) + r.by'))).1 + 1),by simp only; omega,⟨by simp only; omega,e1.symm⟩,?_⟩
                  rw [W1 (x := r.fr + (j : Int) + 1) (by omega) (by omega),W1 (x := (goS b (n + growS a) (wr .i64 (r.fr + (j : Int) + r.by'))).1 + 1) (by omega) (by omega)]
                  (((with_reducible refine covers_n ?_); repeat' ((conv => whnf); all_goals first | with_reducible exact True.intro | with_reducible apply And.intro | ((with_reducible show _ = _); with_reducible exact rfl) | with_reducible assumption | omega | ((with_reducible show _ = _); exact rfl) | assumption)))
                · have h0 : ¬ (goS b (n + growS a) (wr .i64 (r.fr + (j : Int) + r.by'))).2 = 0 := by assumption
                  have hlt : r.fr + (j : Int) < r.to := by assumption
                  have e1 := join_at hr hlt hst
                  rw [join_no h0] at e1
                  refine ⟨(j + 1,[],x,u),by simp only; omega,⟨by simp only; omega,e1.symm⟩,?_⟩
                  rw [W1 (x := r.fr + (j : Int) + 1) (by omega) (by omega)]
                  (((with_reducible refine covers_n ?_); repeat' ((conv => whnf); all_goals first | with_reducible exact True.intro | with_reducible apply And.intro | ((with_reducible show _ = _); with_reducible exact rfl) | with_reducible assumption | omega | ((with_reducible show _ = _); exact rfl) | assumption)))
                · have hjj : j = (r.to - r.fr).toNat := by omega
                  refine ⟨(i + 1,[],x,u),by simp only; omega,⟨by simp only; omega,?_⟩,?_⟩
                  · rw [kpos_step hr,← hjj]; exact hst
                  · rw [W1 (x := (i : Int) + 1) (by omega) (by omega)]
                    (((with_reducible refine covers_n ?_); repeat' ((conv => whnf); all_goals first | with_reducible exact True.intro | with_reducible apply And.intro | ((with_reducible show _ = _); with_reducible exact rfl) | with_reducible assumption | omega | ((with_reducible show _ = _); exact rfl) | assumption)))
              | cons e l =>
                have hb := join_in hj hR hRb hr hj1 hst
                (((repeat' ((conv => whnf); all_goals first | assumption | with_reducible exact True.intro | with_reducible apply And.intro | (intro q; first | (exfalso; exact Bool.noConfusion q) | (exfalso; with_reducible exact q rfl) | subst q | (replace q : false = false := q; clear q) | (replace q : true = true := q; clear q) | (revert q; intro)) | ((with_reducible show _ = _); exact rfl))); all_goals try (conv => whnf); all_goals simp only [eq_self,true_iff,Bool.false_eq_true,false_iff,ed_eta,fl_eta,pt_eta,B_mk,Int.toNat_natCast] at *; all_goals (try contradiction); all_goals try (refine Chk.mk ?_; omega)))
                all_goals rw [hn1] at *
                · exact Chk.mk hRb
                · have h0 : (goS b (n + growS a) (wr .i64 (r.fr + (j : Int) + r.by'))).2 = 0 := by assumption
                  obtain ⟨_,g,hg1,_,hg2⟩ := go_bd hRb (by omega) (by omega) h0
                  exact Chk.mk (gap_ok hj hR hRb hb.2.1.1 (by omega))
                · have h0 : (goS b (n + growS a) (wr .i64 (r.fr + (j : Int) + r.by'))).2 = 0 := by assumption
                  have hlt : r.fr + (j : Int) < r.to := by assumption
                  obtain ⟨_,g,hg1,_,hg2⟩ := go_bd hRb (by omega) (by omega) h0
                  have e1 := join_at hr hlt hst
                  rw [join_go h0,gapPut_pos (by assumption)] at e1
                  refine ⟨(j + 1,(e :: l) ++ [gapE a (spansS a) b (spansS b) (n + growS a) x (r.fr + (j : Int)) u (goS b (n + growS a) (wr .i64 (r.fr + (j : Int) + r.by'))).1],r.fr + (j : Int) + 1,(goS b (n + growS a) (wr .i64 (r.fr + (j : Int) + r.by'))).1 + 1),by simp only; omega,⟨by simp only; omega,e1.symm⟩,?_⟩
                  rw [W1 (x := r.fr + (j : Int) + 1) (by omega) (by omega),W1 (x := (goS b (n + growS a) (wr .i64 (r.fr + (j : Int) + r.by'))).1 + 1) (by omega) (by omega)]
                  (((with_reducible refine covers_n ?_); repeat' ((conv => whnf); all_goals first | with_reducible exact True.intro | with_reducible apply And.intro | ((with_reducible show _ = _); with_reducible exact rfl) | with_reducible assumption | omega | ((with_reducible show _ = _); exact rfl) | assumption)))
                · have h0 : (goS b (n + growS a) (wr .i64 (r.fr + (j : Int) + r.by'))).2 = 0 := by assumption
                  have hlt : r.fr + (j : Int) < r.to := by assumption
                  obtain ⟨_,g,hg1,_,hg2⟩ := go_bd hRb (by omega) (by omega) h0
                  have e1 := join_at hr hlt hst
                  rw [join_go h0,gapPut_neg (by assumption)] at e1
                  refine ⟨(j + 1,(e :: l),r.fr + (j : Int) + 1,(goS b (n + growS a) (wr .i64 (r.fr + (j : Int) + r.by'))).1 + 1),by simp only; omega,⟨by simp only; omega,e1.symm⟩,?_⟩
                  rw [W1 (x := r.fr + (j : Int) + 1) (by omega) (by omega),W1 (x := (goS b (n + growS a) (wr .i64 (r.fr + (j : Int) + r.by'))).1 + 1) (by omega) (by omega)]
                  (((with_reducible refine covers_n ?_); repeat' ((conv => whnf); all_goals first | with_reducible exact True.intro | with_reducible apply And.intro | ((with_reducible show _ = _); with_reducible exact rfl) | with_reducible assumption | omega | ((with_reducible show _ = _); exact rfl) | assumption)))
                · have h0 : ¬ (goS b (n + growS a) (wr .i64 (r.fr + (j : Int) + r.by'))).2 = 0 := by assumption
                  have hlt : r.fr + (j : Int) < r.to := by assumption
                  have e1 := join_at hr hlt hst
                  rw [join_no h0] at e1
                  refine ⟨(j + 1,(e :: l),x,u),by simp only; omega,⟨by simp only; omega,e1.symm⟩,?_⟩
                  rw [W1 (x := r.fr + (j : Int) + 1) (by omega) (by omega)]
                  (((with_reducible refine covers_n ?_); repeat' ((conv => whnf); all_goals first | with_reducible exact True.intro | with_reducible apply And.intro | ((with_reducible show _ = _); with_reducible exact rfl) | with_reducible assumption | omega | ((with_reducible show _ = _); exact rfl) | assumption)))
                · have hjj : j = (r.to - r.fr).toNat := by omega
                  refine ⟨(i + 1,(e :: l),x,u),by simp only; omega,⟨by simp only; omega,?_⟩,?_⟩
                  · rw [kpos_step hr,← hjj]; exact hst
                  · rw [W1 (x := (i : Int) + 1) (by omega) (by omega)]
                    (((with_reducible refine covers_n ?_); repeat' ((conv => whnf); all_goals first | with_reducible exact True.intro | with_reducible apply And.intro | ((with_reducible show _ = _); with_reducible exact rfl) | with_reducible assumption | omega | ((with_reducible show _ = _); exact rfl) | assumption)))
          · have hjo := join_end hi (by omega) hst
            refine ⟨.tup [],hpJ a b n (n + growS a) (growS a) .ready r0 (e :: l) x u [],?_,?_⟩
            · (((with_reducible refine covers_n ?_); repeat' ((conv => whnf); all_goals first | with_reducible exact True.intro | with_reducible apply And.intro | ((with_reducible show _ = _); with_reducible exact rfl) | with_reducible assumption | omega | ((with_reducible show _ = _); exact rfl) | assumption)))
            · skip
              have hbo := join_bd hj hR hRb (kpos (runsS a n) i) kpos_le
              rw [← hst] at hbo
              have hK := h3 hR hRb
              rw [hjo] at hK
              have hWb : W (growS b) = growS b := W_id (by omega) (by omega)
              (((repeat' ((conv => whnf); all_goals first | assumption | with_reducible exact True.intro | with_reducible apply And.intro | (intro q; first | (exfalso; exact Bool.noConfusion q) | (exfalso; with_reducible exact q rfl) | subst q | (replace q : false = false := q; clear q) | (replace q : true = true := q; clear q) | (revert q; intro)) | ((with_reducible show _ = _); exact rfl))); all_goals try (conv => whnf); all_goals simp only [eq_self,true_iff,Bool.false_eq_true,false_iff,ed_eta,fl_eta,pt_eta,B_mk,Int.toNat_natCast] at *; all_goals (try contradiction); all_goals try (refine Chk.mk ?_; omega)))
              all_goals try exact Chk.mk (Nat.le_trans hbo.2.2 (Nat.le_trans kpos_le (Nat.le_trans (keptS_len hR jn ja) (by decide : 16000 ≤ 1000000))))
              · rw [hn1,hWb,W1 (x := n + growS a + growS b) (by omega) (by omega)]
                exact Chk.mk (gap_ok hj hR hRb hbo.2.1.1 (by omega))
              · rename_i hg
                rw [hn1,hWb,W1 (x := n + growS a + growS b) (by omega) (by omega)] at hg ⊢
                rw [gapPut_pos hg] at hK
                exact hK
              · rename_i hg
                rw [hn1,hWb,W1 (x := n + growS a + growS b) (by omega) (by omega)] at hg
                rw [gapPut_neg hg] at hK
                exact hK
    all_goals first
      | exact h1 (by assumption)
      | exact h2 (by assumption) (hrb (by assumption) (by assumption))
  · exact h.elim
end Go.Sx

