/-
  SX: the layer files' small functions over patches.
-/
import Derived.Test.YtelpkdjibjddlaaEvSxZ
namespace Go.Sx
open Go Go.Ev Go.RowKit Go.Proofs
set_option maxRecDepth 100000
set_option maxHeartbeats 4000000
def sp100 : Spec U1 := ⟨false,fun H args K => match args with
  | [.agg [.str a,.sl 0 _],.rp 4 p 0] => ∀ q,(q = true ↔ a = B p.nm) → K (.bool q) H
  | _ => False⟩
def sp88 : Spec U1 := ⟨false,fun H args K => match args with
  | [.agg [.str a,.sl 0 _],.rp 1 p 0] => ∀ q,(q = true ↔ a = B p.nm) → K (.bool q) H
  | _ => False⟩
theorem k100 : SpecOk R1.T S1 100 sp100 := by
  intro H args K h; unfold sp100 at h; dsimp only at h; split at h
  · refine st C0_ok (by kernel_rfl : R1.T.fn 100 = some ⟨9,Try.f100.body.getD .skip,[.tmp 3]⟩) rfl rfl ?_
    repeat' (conv => whnf); all_goals first | apply And.intro | (intro q; first | exact Bool.noConfusion q | subst q | skip)
    all_goals exact h _ (by assumption)
  · exact h.elim
theorem k88 : SpecOk R1.T S1 88 sp88 := by
  intro H args K h; unfold sp88 at h; dsimp only at h; split at h
  · refine st C0_ok (by kernel_rfl : R1.T.fn 88 = some ⟨9,Try.f88.body.getD .skip,[.tmp 3]⟩) rfl rfl ?_
    repeat' (conv => whnf); all_goals first | apply And.intro | (intro q; first | exact Bool.noConfusion q | subst q | skip)
    all_goals exact h _ (by assumption)
  · exact h.elim
def sp87 : Spec U1 := ⟨false,fun H args K => match args with
  | [.sl 4 l,.func 100 [] [.rp 4 p 0]] => l.length ≤ 1000000 ∧ K (.int .i64 (indexP l p.nm)) H
  | [.sl 4 l,.func 88 [] [.rp 1 f 0]] => l.length ≤ 1000000 ∧ K (.int .i64 (indexP l f.nm)) H
  | _ => False⟩
abbrev Cc := addC 100 sp100 (addC 88 sp88 C0)
theorem Cc_ok : COk Cc := addC_ok k100 (addC_ok k88 C0_ok)
theorem k87 : SpecOk R1.T S1 87 sp87 := by
  intro H args K h; unfold sp87 at h; dsimp only at h; split at h
  · rename_i l p
    refine st Cc_ok (by kernel_rfl : R1.T.fn 87 = some ⟨19,Try.f87.body.getD .skip,[.tmp 4]⟩) rfl rfl ?_
    repeat' (conv => whnf); all_goals intro hL
    conv => whnf
    refine ⟨Nat,fun i => ([(0,.sl 4 l),(1,.func 100 [] [.rp 4 p 0]),(6,.sl 4 l),(7,.int .i64 l.length),(8,.int .i64 i)],[]),fun i => i ≤ l.length ∧ NoB (fun q : Pt => B q.nm = B p.nm) l i,fun i => l.length - i,0,⟨Nat.zero_le _,NoB.zero⟩,?_,?_⟩
    · repeat' (conv => whnf); all_goals first | trivial | apply And.intro
    · intro i hi
      (((repeat' ((conv => whnf); all_goals first | trivial | apply And.intro | (intro q; first | exact Bool.noConfusion q | subst q | (revert q; intro)))); all_goals try (conv => whnf); all_goals simp only [eq_self,true_iff,Bool.false_eq_true,false_iff,ed_eta,fl_eta,pt_eta,B_mk,Int.toNat_natCast] at *; all_goals try (refine Chk.mk ?_; omega)))
      · rw [indexP_at hi.2 (by assumption) (by assumption)] at h; exact h.2
      · refine ⟨i + 1,by omega,⟨by omega,hi.2.step (by assumption) (by assumption)⟩,?_⟩
        (repeat' ((conv => whnf); all_goals first | trivial | apply And.intro | omega))
      · rw [indexP_none hi.2 (by omega)] at h; exact h.2
  · rename_i l p
    refine st Cc_ok (by kernel_rfl : R1.T.fn 87 = some ⟨19,Try.f87.body.getD .skip,[.tmp 4]⟩) rfl rfl ?_
    repeat' (conv => whnf); all_goals intro hL
    conv => whnf
    refine ⟨Nat,fun i => ([(0,.sl 4 l),(1,.func 88 [] [.rp 1 p 0]),(6,.sl 4 l),(7,.int .i64 l.length),(8,.int .i64 i)],[]),fun i => i ≤ l.length ∧ NoB (fun q : Pt => B q.nm = B p.nm) l i,fun i => l.length - i,0,⟨Nat.zero_le _,NoB.zero⟩,?_,?_⟩
    · repeat' (conv => whnf); all_goals first | trivial | apply And.intro
    · intro i hi
      (((repeat' ((conv => whnf); all_goals first | trivial | apply And.intro | (intro q; first | exact Bool.noConfusion q | subst q | (revert q; intro)))); all_goals try (conv => whnf); all_goals simp only [eq_self,true_iff,Bool.false_eq_true,false_iff,ed_eta,fl_eta,pt_eta,B_mk,Int.toNat_natCast] at *; all_goals try (refine Chk.mk ?_; omega)))
      · rw [indexP_at hi.2 (by assumption) (by assumption)] at h; exact h.2
      · refine ⟨i + 1,by omega,⟨by omega,hi.2.step (by assumption) (by assumption)⟩,?_⟩
        (repeat' ((conv => whnf); all_goals first | trivial | apply And.intro | omega))
      · rw [indexP_none hi.2 (by omega)] at h; exact h.2
  · exact h.elim
def sp101 : Spec U1 := ⟨false,fun H args K => match args with
  | [.sl 4 l,.func 100 [] [.rp 4 p 0]] => l.length ≤ 1000000 ∧ ∀ q,(q = true ↔ 0 ≤ indexP l p.nm) → K (.bool q) H
  | _ => False⟩
theorem k101 : SpecOk R1.T S1 101 sp101 := by
  intro H args K h; unfold sp101 at h; dsimp only at h; split at h
  · rename_i l p
    obtain ⟨h1,h⟩ := h
    refine st (addC_ok k87 C0_ok) (by kernel_rfl : R1.T.fn 101 = some ⟨9,Try.f101.body.getD .skip,[.tmp 4]⟩) rfl rfl ?_
    (((repeat' ((conv => whnf); all_goals first | trivial | apply And.intro | (intro q; first | exact Bool.noConfusion q | subst q | (revert q; intro)))); all_goals try (conv => whnf); all_goals simp only [eq_self,true_iff,Bool.false_eq_true,false_iff,ed_eta,fl_eta,pt_eta,B_mk,Int.toNat_natCast] at *; all_goals try (refine Chk.mk ?_; omega)))
  · exact h.elim
def sp45 : Spec U1 := ⟨true,fun H args K => match H,args with
  | [],[.sl 1 l] => l.length ≤ 1000000 ∧ K (.ol 0) [.list false true 68 1 l]
  | _,_ => False⟩
theorem k45 : SpecOk R1.T S1 45 sp45 := by
  intro H args K h; unfold sp45 at h; dsimp only at h; split at h
  · rename_i l
    obtain ⟨h1,h⟩ := h
    refine CallOk.of_wpO (p := ⟨S1,C0,11,0,fun _ => none⟩) (par_ok C0_ok _ _) (by kernel_rfl : R1.T.fn 45 = some ⟨11,Try.f45.body.getD .skip,[.tmp 2]⟩) rfl (Nat.le_of_ble_eq_true rfl) ?_ (fun h => by cases h)
    (((repeat' ((conv => whnf); all_goals first | trivial | apply And.intro | (intro q; first | exact Bool.noConfusion q | subst q | (revert q; intro)))); all_goals try (conv => whnf); all_goals simp only [eq_self,true_iff,Bool.false_eq_true,false_iff,ed_eta,fl_eta,pt_eta,B_mk,Int.toNat_natCast] at *; all_goals try (refine Chk.mk ?_; omega)))
    · refine Chk.mk ⟨trivial,by omega,?_⟩
      rw [show S1.bytes 68 = 32 from rfl]; omega
    · exact Chk.mk (List.length_replicate ..).symm
    · refine ⟨.ol 0,[.list false true 68 1 l],?_,h⟩
      (repeat' ((conv => whnf); all_goals first | trivial | apply And.intro | omega))
  · exact h.elim
theorem k45L : SpecOk R1.T S1 45 (lifted sp45) := lifted_ok sys1.1 k45
structure POk (p : Pt) : Prop where
  nm : (B p.nm).length ≤ 140737488351232
  es : ∀ e ∈ p.es,(B e.tx).length ≤ 140737488351232
def FewAt (p : Pt) : Prop := p.es.length ≤ 41 ∧ (B p.nm).length ≤ 40000 ∧ sumT p.es ≤ 40000
def Few (l : List Pt) : Prop := l.length ≤ 21 ∧ ∀ p ∈ l,FewAt p
def sp57 : Spec U1 := ⟨false,fun H args K => match args with
  | [.sl 4 l] => (∀ p ∈ l,POk p) ∧ ∀ q,(q = false → Few l) → K (.bool q) H
  | _ => False⟩
theorem k57 : SpecOk R1.T S1 57 sp57 := by
  intro H args K h; unfold sp57 at h; dsimp only at h; split at h
  · rename_i l
    obtain ⟨h1,h⟩ := h
    refine st C0_ok (by kernel_rfl : R1.T.fn 57 = some ⟨47,Try.f57.body.getD .skip,[.tmp 2]⟩) rfl rfl ?_
    repeat' (conv => whnf); all_goals intro hL
    conv => whnf
    refine ⟨Nat × Int,fun y => ([(3,.int .i64 y.2),(8,.sl 4 l),(9,.int .i64 l.length),(10,.int .i64 y.1)],[]),fun y => y.1 ≤ l.length ∧ y.1 ≤ 21 ∧ 0 ≤ y.2 ∧ y.2 ≤ 40000 ∧ ∀ k p,k < y.1 → l[k]? = some p → FewAt p,fun y => l.length - y.1,(0,0),⟨Nat.zero_le _,by decide,by decide,by decide,fun k p hk => absurd hk (Nat.not_lt_zero _)⟩,?_,?_⟩
    · repeat' (conv => whnf); all_goals first | trivial | apply And.intro
    · intro ⟨i,t⟩ ⟨hi1,hi2,ht1,ht2,hi⟩
      dsimp only at hi1 hi2 ht1 ht2 hi
      (((repeat' ((conv => whnf); all_goals first | trivial | apply And.intro | (intro q; first | exact Bool.noConfusion q | subst q | (revert q; intro)))); all_goals try (conv => whnf); all_goals simp only [eq_self,true_iff,Bool.false_eq_true,false_iff,ed_eta,fl_eta,pt_eta,B_mk,Int.toNat_natCast] at *; all_goals try (refine Chk.mk ?_; omega)))
      · rename_i p hp hw hl hlt
        have hpo := h1 p (List.mem_of_getElem? hp)
        have hn := hpo.nm
        rw [hw (by omega)]
        refine ⟨Nat × Int,fun y => ([(3,.int .i64 y.2),(4,.int .i64 i),(8,.sl 4 l),(9,.int .i64 l.length),(10,.int .i64 i),(21,.sl 0 p.es),(22,.int .i64 p.es.length),(23,.int .i64 y.1)],[]),fun y => y.1 ≤ p.es.length ∧ y.1 ≤ 41 ∧ (B p.nm).length + sumT (p.es.take y.1) ≤ y.2 ∧ y.2 ≤ 40000 + 140737488351232 ∧ (0 < y.1 → y.2 ≤ 40000),fun y => p.es.length - y.1,(0,t + (B p.nm).length),⟨Nat.zero_le _,Nat.zero_le _,by simp [sumT]; omega,by simp only; omega,fun h => absurd h (Nat.lt_irrefl 0)⟩,?_,?_⟩
        · (repeat' ((conv => whnf); all_goals first | trivial | apply And.intro | omega))
        · intro ⟨j,u⟩ ⟨hj1,hj2,hu1,hu2,hu3⟩
          dsimp only at hj1 hj2 hu1 hu2 hu3
          (((repeat' ((conv => whnf); all_goals first | trivial | apply And.intro | (intro q; first | exact Bool.noConfusion q | subst q | (revert q; intro)))); all_goals try (conv => whnf); all_goals simp only [eq_self,true_iff,Bool.false_eq_true,false_iff,ed_eta,fl_eta,pt_eta,B_mk,Int.toNat_natCast] at *; all_goals try (refine Chk.mk ?_; omega)))
          · exact h _ nofun
          · rename_i e he hw hx _ _ _ _ h5
            have ht := hpo.es e (List.mem_of_getElem? he)
            have hs := sumT_step he
            rw [hw (by omega)] at h5 ⊢
            refine ⟨(j + 1,u + (B e.tx).length),by simp only; omega,⟨by simp only; omega,by simp only; omega,by simp only [hs]; omega,by simp only; omega,fun _ => by simp only; omega⟩,?_⟩
            (repeat' ((conv => whnf); all_goals first | trivial | apply And.intro | omega))
          · exact h _ nofun
          · exact h _ nofun
          · have hj : j = p.es.length := by omega
            subst hj
            rw [List.take_length] at hu1
            refine ⟨(i + 1,u),by simp only; omega,⟨by simp only; omega,by simp only; omega,by simp only; omega,by simp only; omega,fun k q hk hq => ?_⟩,?_⟩
            · by_cases hki : k = i
              · subst hki
                rw [hp] at hq; cases hq
                exact ⟨hj2,by omega,by omega⟩
              · exact hi k q (by simp only at hk; omega) hq
            · (repeat' ((conv => whnf); all_goals first | trivial | apply And.intro | omega))
          · exact h _ nofun
      · refine h _ fun _ => ⟨by omega,fun q hq => ?_⟩
        obtain ⟨k,hk⟩ := List.mem_iff_getElem?.1 hq
        have := (List.getElem?_eq_some_iff.1 hk).1
        exact hi k q (by omega) hk
  · exact h.elim
end Go.Sx

