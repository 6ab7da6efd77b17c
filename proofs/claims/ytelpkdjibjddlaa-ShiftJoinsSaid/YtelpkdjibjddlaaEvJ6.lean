/-
  SX: of each byte of the new text whence it came, and its bytes.
-/
import Derived.Test.YtelpkdjibjddlaaEvJ4
import Derived.Test.YtelpkdjibjddlaaEvApplyLaw
import Derived.Test.YtelpkdjibjddlaaEvShiftLaw
set_option linter.unusedSimpArgs false
set_option linter.unusedVariables false
namespace Go.Sx
open Go Go.Ev Go.RowKit Go.Proofs
set_option maxRecDepth 100000
set_option maxHeartbeats 4000000
def tfStep (p : List UInt8 × Int) (e : Ed) : List UInt8 × Int := (p.1 ++ List.replicate (e.lo - p.2).toNat 46 ++ B e.tx,e.hi)
def tfF (l : List Ed) : List UInt8 × Int := l.foldl tfStep ([],0)
def fromT (l : List Ed) (n : Int) : List UInt8 := (tfF l).1 ++ List.replicate (n - (tfF l).2).toNat 46
theorem tfF_step {l : List Ed} {i : Nat} {e : Ed} (he : l[i]? = some e) : tfF (l.take (i + 1)) = tfStep (tfF (l.take i)) e := foldl_step he
theorem tf_two : ∀ {l : List Ed} {i : Nat},i ≤ l.length → (tfF (l.take i)).2 = (fromF (l.take i)).2
  | l,0,_ => rfl
  | l,i + 1,h => by
    obtain ⟨e,he⟩ := ex_at (l := l) (i := i) (by omega)
    rw [tfF_step he,fromF_step he]; rfl
theorem tf_len {l : List Ed} {n : Int} (hR : Right l n) : ∀ {i : Nat},i ≤ l.length → (fromF (l.take i)).1.length ≤ n.toNat + sumT (l.take i) ∧ (((fromF (l.take i)).1.length : Nat) : Int) ≤ (fromF (l.take i)).2 + sumT (l.take i) ∧ (tfF (l.take i)).1.length = (fromF (l.take i)).1.length
  | 0,_ => ⟨Nat.zero_le _,by simp [fromF,sumT],rfl⟩
  | i + 1,h => by
    obtain ⟨e,he⟩ := ex_at (l := l) (i := i) (by omega)
    obtain ⟨h1,h2,h3⟩ := tf_len hR (i := i) (by omega)
    have ha := at_le hR he
    have hw := (hR.2 i (by omega) e he).1
    have h4 := tf_two (l := l) (i := i) (by omega)
    have e0 : (fromF (l.take (i + 1))).1.length = (fromF (l.take i)).1.length + (e.lo - (fromF (l.take i)).2).toNat + (B e.tx).length := by
      rw [fromF_step he]; simp [fromStep,upTo_len]; omega
    have e1 : (tfF (l.take (i + 1))).1.length = (tfF (l.take i)).1.length + (e.lo - (tfF (l.take i)).2).toNat + (B e.tx).length := by
      rw [tfF_step he]; simp [tfStep]; omega
    have e2 : (fromF (l.take (i + 1))).2 = e.hi := by rw [fromF_step he]; rfl
    rw [sumT_step he,e0,e1,e2,h3,h4]
    refine ⟨by omega,by push_cast; omega,rfl⟩
def At66 (l : List Ed) (n : Int) (y : Nat × List Int × List UInt8 × Int) : Prop := (y.1 ≤ l.length ∧ y.2 = ((fromF (l.take y.1)).1,(tfF (l.take y.1)).1,(fromF (l.take y.1)).2)) ∨ (y.1 = l.length + 1 ∧ y.2 = (fromS l n,fromT l n,n))
def sp66 : Spec U1 := ⟨false,false,fun H args K => match args with
  | [.sl 0 l,.int .i64 n] => Chk (Right l n) ∧ Chk (l.length ≤ 1000) ∧ Chk (n ≤ 1000000) ∧ Chk (sumT l ≤ 1000000) ∧ K (.tup [.sl 5 (fromS l n),.str (fromT l n)]) H
  | _ => False⟩
theorem k66 : SpecOk R1.T S1 66 sp66 := by
  intro H args K h; unfold sp66 at h; dsimp only at h; split at h
  · rename_i l n
    obtain ⟨hR,hl,hn,hs,h⟩ := h
    replace hR := hR.out
    replace hl := hl.out
    replace hn := hn.out
    replace hs := hs.out
    refine st C0_ok (by kernel_rfl : R1.T.fn 66 = some ⟨70,Try.f66.body.getD .skip,[.tmp 4,.tmp 5]⟩) rfl rfl ?_
    (((repeat' ((conv => whnf); all_goals first | assumption | with_reducible exact True.intro | with_reducible apply And.intro | (intro q; first | (exfalso; exact Bool.noConfusion q) | (exfalso; with_reducible exact q rfl) | subst q | (replace q : false = false := q; clear q) | (replace q : true = true := q; clear q) | (revert q; intro)) | ((with_reducible show _ = _); exact rfl))); all_goals try (conv => whnf); all_goals simp only [eq_self,true_iff,Bool.false_eq_true,false_iff,ed_eta,fl_eta,pt_eta,B_mk,Int.toNat_natCast] at *; all_goals (try contradiction); all_goals try (refine Chk.mk ?_; omega)))
    refine ⟨Nat × List Int × List UInt8 × Int,fun y => ([(0,.sl 0 l),(1,.int .i64 n),(4,.nilS),(5,.str []),(6,.ol 0),(7,.str y.2.2.1),(8,.int .i64 y.2.2.2),(9,.int .i64 y.1)],[.list false false 3 5 y.2.1]),At66 l n,fun y => l.length + 1 - y.1,(0,[],[],0),.inl ⟨Nat.zero_le _,rfl⟩,?_,?_⟩
    · (repeat' ((conv => whnf); all_goals first | assumption | with_reducible exact True.intro | with_reducible apply And.intro | ((with_reducible show _ = _); exact rfl) | omega | trivial))
    · intro ⟨i,out,tx,x⟩ hP
      dsimp only
      by_cases hi : i ≤ l.length
      · obtain ⟨_,rfl,rfl,rfl⟩ : i ≤ l.length ∧ out = (fromF (l.take i)).1 ∧ tx = (tfF (l.take i)).1 ∧ x = (fromF (l.take i)).2 := by
          rcases hP with ⟨h1,h2⟩ | ⟨h1,_⟩
          · simp only [Prod.mk.injEq] at h2
            exact ⟨h1,h2⟩
          · simp only at h1; omega
        clear hP
        obtain ⟨p1,p2,p3,p4⟩ := pos_all hR i hi
        obtain ⟨q1,q2,q3⟩ := tf_len hR hi
        have q4 := tf_two hi
        have q5 := sumT_le l i
        (((repeat' ((conv => whnf); all_goals first | assumption | with_reducible exact True.intro | with_reducible apply And.intro | (intro q; first | (exfalso; exact Bool.noConfusion q) | (exfalso; with_reducible exact q rfl) | subst q | (replace q : false = false := q; clear q) | (replace q : true = true := q; clear q) | (revert q; intro)) | ((with_reducible show _ = _); exact rfl))); all_goals try (conv => whnf); all_goals simp only [eq_self,true_iff,Bool.false_eq_true,false_iff,ed_eta,fl_eta,pt_eta,B_mk,Int.toNat_natCast] at *; all_goals (try contradiction); all_goals try (refine Chk.mk ?_; omega)))
        · rename_i e he _ hil
          have a1 := at_le hR he
          have a2 := (hR.2 i (by omega) e he).1
          have a3 := sumT_get he
          refine ⟨Nat,fun j => ([(0,.sl 0 l),(1,.int .i64 n),(4,.nilS),(5,.str []),(6,.ol 0),(7,.str ((tfF (l.take i)).1 ++ List.replicate j 46)),(8,.int .i64 ((fromF (l.take i)).2 + (j : Int))),(9,.int .i64 i),(10,.int .i64 e.lo)],[.list false false 3 5 ((fromF (l.take i)).1 ++ upTo (fromF (l.take i)).2 ((fromF (l.take i)).2 + (j : Int)))]),fun j => j ≤ (e.lo - (fromF (l.take i)).2).toNat,fun j => (e.lo - (fromF (l.take i)).2).toNat - j,0,Nat.zero_le _,?_,?_⟩
          · dsimp only
            rw [show (fromF (l.take i)).2 + ((0 : Nat) : Int) = (fromF (l.take i)).2 by omega,upTo_self,List.append_nil,List.replicate_zero,List.append_nil]
            (repeat' ((conv => whnf); all_goals first | assumption | with_reducible exact True.intro | with_reducible apply And.intro | ((with_reducible show _ = _); exact rfl) | omega | trivial))
          · intro j hj
            have hu : (upTo (fromF (l.take i)).2 ((fromF (l.take i)).2 + (j : Int))).length = j := by rw [upTo_len]; omega
            (((repeat' ((conv => whnf); all_goals first | assumption | with_reducible exact True.intro | with_reducible apply And.intro | (intro q; first | (exfalso; exact Bool.noConfusion q) | (exfalso; with_reducible exact q rfl) | subst q | (replace q : false = false := q; clear q) | (replace q : true = true := q; clear q) | (revert q; intro)) | ((with_reducible show _ = _); exact rfl))); all_goals try (conv => whnf); all_goals simp only [eq_self,true_iff,Bool.false_eq_true,false_iff,ed_eta,fl_eta,pt_eta,B_mk,Int.toNat_natCast] at *; all_goals (try contradiction); all_goals try (refine Chk.mk ?_; omega)))
            · refine Chk.mk ?_
              show (((fromF (l.take i)).1 ++ upTo (fromF (l.take i)).2 ((fromF (l.take i)).2 + (j : Int))).length + 1) * 8 ≤ 140737488355328
              rw [List.length_append,hu]
              omega
            · refine Chk.mk ?_
              rw [List.length_append,List.length_replicate]
              show (tfF (l.take i)).1.length + j + 1 ≤ 9223372036854775807
              omega
            · rename_i hw _
              rw [hw (by omega)]
              refine ⟨j + 1,by omega,by omega,?_⟩
              rw [show (fromF (l.take i)).2 + ((j + 1 : Nat) : Int) = (fromF (l.take i)).2 + (j : Int) + 1 by omega,upTo_succ (by omega),List.replicate_succ',← List.append_assoc,← List.append_assoc]
              (repeat' ((conv => whnf); all_goals first | assumption | with_reducible exact True.intro | with_reducible apply And.intro | ((with_reducible show _ = _); exact rfl) | omega | trivial))
            · have hj2 : (fromF (l.take i)).2 + (j : Int) = e.lo := by omega
              have hjn : j = (e.lo - (fromF (l.take i)).2).toNat := by omega
              rw [hj2] at hu ⊢
              refine ⟨Nat,fun k => ([(0,.sl 0 l),(1,.int .i64 n),(4,.nilS),(5,.str []),(6,.ol 0),(7,.str ((tfF (l.take i)).1 ++ List.replicate j 46)),(8,.int .i64 e.lo),(9,.int .i64 i),(11,.int .i64 k)],[.list false false 3 5 ((fromF (l.take i)).1 ++ upTo (fromF (l.take i)).2 e.lo ++ List.replicate k (-1))]),fun k => k ≤ (B e.tx).length,fun k => (B e.tx).length - k,0,Nat.zero_le _,?_,?_⟩
              · dsimp only
                rw [List.replicate_zero,List.append_nil]
                (repeat' ((conv => whnf); all_goals first | assumption | with_reducible exact True.intro | with_reducible apply And.intro | ((with_reducible show _ = _); exact rfl) | omega | trivial))
              · intro k hk
                (((repeat' ((conv => whnf); all_goals first | assumption | with_reducible exact True.intro | with_reducible apply And.intro | (intro q; first | (exfalso; exact Bool.noConfusion q) | (exfalso; with_reducible exact q rfl) | subst q | (replace q : false = false := q; clear q) | (replace q : true = true := q; clear q) | (revert q; intro)) | ((with_reducible show _ = _); exact rfl))); all_goals try (conv => whnf); all_goals simp only [eq_self,true_iff,Bool.false_eq_true,false_iff,ed_eta,fl_eta,pt_eta,B_mk,Int.toNat_natCast] at *; all_goals (try contradiction); all_goals try (refine Chk.mk ?_; omega)))
                · exact Chk.mk ⟨by omega,by omega⟩
                · rename_i e1 he1 _
                  obtain rfl := same_at he1 he rfl
                  refine Chk.mk ?_
                  show (((fromF (l.take i)).1 ++ upTo (fromF (l.take i)).2 e1.lo ++ List.replicate k (-1)).length + 1) * 8 ≤ 140737488355328
                  rw [List.length_append,List.length_append,hu,List.length_replicate]
                  omega
                · rename_i e1 he1 hw _
                  obtain rfl := same_at he1 he rfl
                  rw [hw (by omega)]
                  refine ⟨k + 1,by omega,by omega,?_⟩
                  rw [List.replicate_succ',← List.append_assoc]
                  (repeat' ((conv => whnf); all_goals first | assumption | with_reducible exact True.intro | with_reducible apply And.intro | ((with_reducible show _ = _); exact rfl) | omega | trivial))
                · rename_i e1 he1 e2 he2 _
                  obtain rfl := same_at he1 he rfl
                  obtain rfl := same_at he2 he1 rfl
                  refine Chk.mk ?_
                  rw [List.length_append,List.length_replicate]
                  omega
                · rename_i e1 he1 e2 he2 e3 he3 hw _
                  obtain rfl := same_at he1 he rfl
                  obtain rfl := same_at he2 he1 rfl
                  obtain rfl := same_at he3 he1 rfl
                  rw [hw (by omega)]
                  have hkk : k = (B e3.tx).length := by omega
                  subst hkk
                  refine ⟨(i + 1,(fromF (l.take i)).1 ++ upTo (fromF (l.take i)).2 e3.lo ++ List.replicate (B e3.tx).length (-1),(tfF (l.take i)).1 ++ List.replicate j 46 ++ B e3.tx,e3.hi),by simp only; omega,.inl ⟨by simp only; omega,?_⟩,by (repeat' ((conv => whnf); all_goals first | assumption | with_reducible exact True.intro | with_reducible apply And.intro | ((with_reducible show _ = _); exact rfl) | omega | trivial))⟩
                  rw [fromF_step he1,tfF_step he1]
                  simp only [fromStep,tfStep,q4,hjn]
        · have a1 : i = l.length := by omega
          refine ⟨Nat,fun j => ([(0,.sl 0 l),(1,.int .i64 n),(4,.nilS),(5,.str []),(6,.ol 0),(7,.str ((tfF (l.take i)).1 ++ List.replicate j 46)),(8,.int .i64 ((fromF (l.take i)).2 + (j : Int))),(9,.int .i64 i),(10,.int .i64 n)],[.list false false 3 5 ((fromF (l.take i)).1 ++ upTo (fromF (l.take i)).2 ((fromF (l.take i)).2 + (j : Int)))]),fun j => j ≤ (n - (fromF (l.take i)).2).toNat,fun j => (n - (fromF (l.take i)).2).toNat - j,0,Nat.zero_le _,?_,?_⟩
          · dsimp only
            rw [show (fromF (l.take i)).2 + ((0 : Nat) : Int) = (fromF (l.take i)).2 by omega,upTo_self,List.append_nil,List.replicate_zero,List.append_nil]
            (repeat' ((conv => whnf); all_goals first | assumption | with_reducible exact True.intro | with_reducible apply And.intro | ((with_reducible show _ = _); exact rfl) | omega | trivial))
          · intro j hj
            have hu : (upTo (fromF (l.take i)).2 ((fromF (l.take i)).2 + (j : Int))).length = j := by rw [upTo_len]; omega
            (((repeat' ((conv => whnf); all_goals first | assumption | with_reducible exact True.intro | with_reducible apply And.intro | (intro q; first | (exfalso; exact Bool.noConfusion q) | (exfalso; with_reducible exact q rfl) | subst q | (replace q : false = false := q; clear q) | (replace q : true = true := q; clear q) | (revert q; intro)) | ((with_reducible show _ = _); exact rfl))); all_goals try (conv => whnf); all_goals simp only [eq_self,true_iff,Bool.false_eq_true,false_iff,ed_eta,fl_eta,pt_eta,B_mk,Int.toNat_natCast] at *; all_goals (try contradiction); all_goals try (refine Chk.mk ?_; omega)))
            · refine Chk.mk ?_
              show (((fromF (l.take i)).1 ++ upTo (fromF (l.take i)).2 ((fromF (l.take i)).2 + (j : Int))).length + 1) * 8 ≤ 140737488355328
              rw [List.length_append,hu]
              omega
            · refine Chk.mk ?_
              rw [List.length_append,List.length_replicate]
              show (tfF (l.take i)).1.length + j + 1 ≤ 9223372036854775807
              omega
            · rename_i hw _
              rw [hw (by omega)]
              refine ⟨j + 1,by omega,by omega,?_⟩
              rw [show (fromF (l.take i)).2 + ((j + 1 : Nat) : Int) = (fromF (l.take i)).2 + (j : Int) + 1 by omega,upTo_succ (by omega),List.replicate_succ',← List.append_assoc,← List.append_assoc]
              (repeat' ((conv => whnf); all_goals first | assumption | with_reducible exact True.intro | with_reducible apply And.intro | ((with_reducible show _ = _); exact rfl) | omega | trivial))
            · rename_i hw _ _
              have hjn : j = (n - (fromF (l.take i)).2).toNat := by omega
              have hj2 : (fromF (l.take i)).2 + (j : Int) = n := by omega
              rw [hw (by omega),hj2]
              refine ⟨(i + 1,(fromF (l.take i)).1 ++ upTo (fromF (l.take i)).2 n,(tfF (l.take i)).1 ++ List.replicate j 46,n),by simp only; omega,.inr ⟨by simp only; omega,?_⟩,by (repeat' ((conv => whnf); all_goals first | assumption | with_reducible exact True.intro | with_reducible apply And.intro | ((with_reducible show _ = _); exact rfl) | omega | trivial))⟩
              subst a1
              rw [List.take_length] at q4 hjn ⊢
              simp only [fromS,fromT,q4,hjn]
        · exact absurd (by omega : ((i : Nat) : Int) ≤ (l.length : Nat)) (by assumption)
      · have : out = fromS l n ∧ tx = fromT l n := by
          rcases hP with ⟨h1,h2⟩ | ⟨_,h2⟩
          · exact absurd h1 hi
          · simp only [Prod.mk.injEq] at h2
            exact ⟨h2.1,h2.2.1⟩
        obtain ⟨rfl,rfl⟩ := this
        (((repeat' ((conv => whnf); all_goals first | assumption | with_reducible exact True.intro | with_reducible apply And.intro | (intro q; first | (exfalso; exact Bool.noConfusion q) | (exfalso; with_reducible exact q rfl) | subst q | (replace q : false = false := q; clear q) | (replace q : true = true := q; clear q) | (revert q; intro)) | ((with_reducible show _ = _); exact rfl))); all_goals try (conv => whnf); all_goals simp only [eq_self,true_iff,Bool.false_eq_true,false_iff,ed_eta,fl_eta,pt_eta,B_mk,Int.toNat_natCast] at *; all_goals (try contradiction); all_goals try (refine Chk.mk ?_; omega)))
        · exact absurd (by assumption : ((i : Nat) : Int) ≤ (l.length : Nat)) (by omega)
        · exact absurd (by assumption : ((i : Nat) : Int) ≤ (l.length : Nat)) (by omega)
  · exact h.elim
end Go.Sx

