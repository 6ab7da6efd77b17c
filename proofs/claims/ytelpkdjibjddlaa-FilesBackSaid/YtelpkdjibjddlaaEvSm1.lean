/-
  SX: lists of edits made plain, by the program and by the document.
-/
import Derived.Test.YtelpkdjibjddlaaEvF2
import Derived.Test.YtelpkdjibjddlaaEvMergeLaw
import Derived.Test.YtelpkdjibjddlaaEvC0
namespace Go.Sx
open Go Go.Ev Go.RowKit Go.Proofs
set_option maxRecDepth 100000
set_option maxHeartbeats 4000000
@[simp] theorem B_empty : B ByteArray.empty = [] := rfl
def sp76 : Spec U1 := ⟨false,false,fun H args K => match args with
  | [.agg [.int .i64 a,.int .i64 b,.str x]] => ∀ q,(q = true ↔ a = b ∧ x = []) → K (.bool q) H
  | _ => False⟩
theorem k76 : SpecOk R1.T S1 76 sp76 := by
  intro H args K h; unfold sp76 at h; dsimp only at h; split at h
  · refine st C0_ok (by kernel_rfl : R1.T.fn 76 = some ⟨13,Try.f76.body.getD .skip,[.tmp 2]⟩) rfl rfl ?_
    (repeat' ((conv => whnf); all_goals first | assumption | with_reducible exact True.intro | with_reducible apply And.intro | (intro q; first | (exfalso; exact Bool.noConfusion q) | (exfalso; with_reducible exact q rfl) | subst q | (revert q; intro)) | ((with_reducible show _ = _); exact rfl)))
    all_goals (refine h _ ?_; clear h; simp_all)
  · exact h.elim
def sp91 : Spec U1 := ⟨false,false,fun H args K => match args with
  | [.sl 0 l,.func 76 [] []] => K (.int .i64 (firstP Nothing l)) H
  | _ => False⟩
theorem k91 : SpecOk R1.T S1 91 sp91 := by
  intro H args K h; unfold sp91 at h; dsimp only at h; split at h
  · rename_i l
    refine st (addC_ok k76 C0_ok) (by kernel_rfl : R1.T.fn 91 = some ⟨19,Try.f91.body.getD .skip,[.tmp 4]⟩) rfl rfl ?_
    repeat' (conv => whnf); all_goals intro hL
    conv => whnf
    refine ⟨Nat,fun i => ([(0,.sl 0 l),(1,.func 76 [] []),(6,.sl 0 l),(7,.int .i64 l.length),(8,.int .i64 i)],[]),fun i => i ≤ l.length ∧ NoB Nothing l i,fun i => l.length - i,0,⟨Nat.zero_le _,NoB.zero⟩,?_,?_⟩
    · (repeat' ((conv => whnf); all_goals first | assumption | with_reducible exact True.intro | with_reducible apply And.intro | ((with_reducible show _ = _); exact rfl) | omega | trivial))
    · intro i hi
      (((repeat' ((conv => whnf); all_goals first | assumption | with_reducible exact True.intro | with_reducible apply And.intro | (intro q; first | (exfalso; exact Bool.noConfusion q) | (exfalso; with_reducible exact q rfl) | subst q | (replace q : false = false := q; clear q) | (replace q : true = true := q; clear q) | (revert q; intro)) | ((with_reducible show _ = _); exact rfl))); all_goals try (conv => whnf); all_goals simp only [eq_self,true_iff,Bool.false_eq_true,false_iff,ed_eta,fl_eta,pt_eta,B_mk,Int.toNat_natCast] at *; all_goals (try contradiction); all_goals try (refine Chk.mk ?_; omega)))
      · rename_i e he _ hn
        rw [firstP_at hi.2 he hn] at h; exact h
      · rename_i e he hw _ hn
        refine ⟨i + 1,by omega,⟨by omega,hi.2.step he hn⟩,?_⟩
        rw [hw (by omega)]
        (repeat' ((conv => whnf); all_goals first | assumption | with_reducible exact True.intro | with_reducible apply And.intro | ((with_reducible show _ = _); exact rfl) | omega | trivial))
      · rw [firstP_none hi.2 (by omega)] at h; exact h
  · exact h.elim
theorem drop_at {α : Type} {m l : List α} {j : Nat} (h : m.drop j = l.drop j) : m[j]? = l[j]? := by have := congrArg (·[0]?) h; simpa using this
def sp83 : Spec U1 := ⟨true,true,fun H args K => match H,args with
  | [.list false false 97 0 l],[.ol 0,.func 76 [] []] => Chk (l.length ≤ 1000000) ∧ ∀ l' : List Ed,l'.length = l.length → l'.take (rmP Nothing l).length = rmP Nothing l → K (.osl 0 0 (rmP Nothing l).length) [.list false false 97 0 l']
  | _,_ => False⟩
theorem k83 : SpecOk R1.T S1 83 sp83 := by
  intro H args K h; unfold sp83 at h; dsimp only at h; split at h
  · rename_i l
    obtain ⟨hl,h⟩ := h
    replace hl := hl.out
    refine CallOk.of_wpO (p := ⟨S1,addC 76 sp76 (addC 91 sp91 C0),42,1,fun _ => none⟩) (par_ok (addC_ok k76 (addC_ok k91 C0_ok)) _ _) (by kernel_rfl : R1.T.fn 83 = some ⟨42,Try.f83.body.getD .skip,[.tmp 4]⟩) rfl (Nat.le_of_ble_eq_true rfl) ?_ (fun h => by cases h)
    (((repeat' ((conv => whnf); all_goals first | assumption | with_reducible exact True.intro | with_reducible apply And.intro | (intro q; first | (exfalso; exact Bool.noConfusion q) | (exfalso; with_reducible exact q rfl) | subst q | (replace q : false = false := q; clear q) | (replace q : true = true := q; clear q) | (revert q; intro)) | ((with_reducible show _ = _); exact rfl))); all_goals try (conv => whnf); all_goals simp only [eq_self,true_iff,Bool.false_eq_true,false_iff,ed_eta,fl_eta,pt_eta,B_mk,Int.toNat_natCast] at *; all_goals (try contradiction); all_goals try (refine Chk.mk ?_; omega)))
    · rename_i h0
      refine ⟨.osl 0 0 (rmP Nothing l).length,[.list false false 97 0 l],?_,h l rfl (by rw [rm_all h0,List.take_length])⟩
      rw [rm_all h0]
      (repeat' ((conv => whnf); all_goals first | assumption | with_reducible exact True.intro | with_reducible apply And.intro | ((with_reducible show _ = _); exact rfl) | omega | trivial))
    · rename_i hw h0
      obtain ⟨i0,e0,g1,g2,g3,g4⟩ := firstP_ex h0
      have gi := (List.getElem?_eq_some_iff.1 g1).1
      rw [g4] at hw ⊢
      rw [hw (by omega)]
      refine ⟨Nat × Nat × List Ed,fun y => ([(0,.ol 0),(1,.func 76 [] []),(5,.int .i64 y.1),(6,.int .i64 y.2.1)],[.list false false 97 0 y.2.2]),fun y => y.1 < y.2.1 ∧ y.2.1 ≤ l.length ∧ y.2.2.length = l.length ∧ y.2.2.take y.1 = rmP Nothing (l.take y.2.1) ∧ y.2.2.drop y.2.1 = l.drop y.2.1,fun y => l.length - y.2.1,(i0,i0 + 1,l),⟨Nat.lt_succ_self _,gi,rfl,by rw [rm_T g1 g2,rm_no g3],rfl⟩,?_,?_⟩
      · (repeat' ((conv => whnf); all_goals first | assumption | with_reducible exact True.intro | with_reducible apply And.intro | ((with_reducible show _ = _); exact rfl) | omega | trivial))
      · intro ⟨i,j,m⟩ ⟨h1,h2,h3,h4,h5⟩
        dsimp only at h1 h2 h3 h4 h5
        (((repeat' ((conv => whnf); all_goals first | assumption | with_reducible exact True.intro | with_reducible apply And.intro | (intro q; first | (exfalso; exact Bool.noConfusion q) | (exfalso; with_reducible exact q rfl) | subst q | (replace q : false = false := q; clear q) | (replace q : true = true := q; clear q) | (revert q; intro)) | ((with_reducible show _ = _); exact rfl))); all_goals try (conv => whnf); all_goals simp only [eq_self,true_iff,Bool.false_eq_true,false_iff,ed_eta,fl_eta,pt_eta,B_mk,Int.toNat_natCast] at *; all_goals (try contradiction); all_goals try (refine Chk.mk ?_; omega)))
        · rename_i e he hw1 hlt hn
          rw [drop_at h5] at he
          refine ⟨(i,j + 1,m),by simp only; omega,⟨by simp only; omega,by simp only; omega,h3,by simp only; rw [rm_T he hn]; exact h4,by simp only; rw [← List.drop_drop,h5,List.drop_drop]⟩,?_⟩
          rw [hw1 (by omega)]
          (repeat' ((conv => whnf); all_goals first | assumption | with_reducible exact True.intro | with_reducible apply And.intro | ((with_reducible show _ = _); exact rfl) | omega | trivial))
        · rename_i e he _ _ hw2 hw1 hlt hn
          rw [drop_at h5] at he
          refine ⟨(i + 1,j + 1,m.set i e),by simp only; omega,⟨by simp only; omega,by simp only; omega,by simp only [List.length_set]; exact h3,?_,?_⟩,?_⟩
          · simp only
            rw [set_take m e (by omega),rm_F he hn,h4]
          · simp only
            rw [List.drop_set_of_lt (by omega),← List.drop_drop,h5,List.drop_drop]
          · rw [hw1 (by omega),hw2 (by omega)]
            (repeat' ((conv => whnf); all_goals first | assumption | with_reducible exact True.intro | with_reducible apply And.intro | ((with_reducible show _ = _); exact rfl) | omega | trivial))
        · exact Chk.mk (by simp; omega)
        · have hj : j = l.length := by omega
          subst hj
          rw [List.take_length] at h4
          have hi : i = (rmP Nothing l).length := by rw [← h4]; simp; omega
          refine ⟨.osl 0 0 i,[.list false false 97 0 (m.take (0 + i) ++ (List.replicate (m.length - i) ⟨0,0,⟨⟨[]⟩⟩⟩ ++ m.drop (0 + i + (m.length - i))))],by (repeat' ((conv => whnf); all_goals first | assumption | with_reducible exact True.intro | with_reducible apply And.intro | ((with_reducible show _ = _); exact rfl) | omega | trivial)),?_⟩
          have := h (m.take (0 + i) ++ (List.replicate (m.length - i) ⟨0,0,⟨⟨[]⟩⟩⟩ ++ m.drop (0 + i + (m.length - i)))) (by simp; omega) (by
            rw [← hi,Nat.zero_add,List.take_append_of_le_length (by simp; omega),List.take_take,Nat.min_self,h4])
          rw [← hi] at this; exact this
  · exact h.elim
theorem k83L : SpecOk R1.T S1 83 (lifted sp83) := lifted_ok sys1.1 k83
theorem set_at {α : Type} {l : List α} {k : Nat} {x y : α} (h : (l.set k y)[k]? = some x) : x = y := by
  have hk := (List.getElem?_eq_some_iff.1 h).1
  rw [List.length_set] at hk
  rw [List.getElem?_set_self hk] at h; cases h; rfl
def sp51 : Spec U1 := ⟨false,false,fun H args K => match args with
  | [.sl 0 l,.int .i64 n] => Chk (l.length ≤ 1000000) ∧ Chk (sumT l ≤ 1000000) ∧ (Right l n → K (.tup [.sl 0 (mgS l),.nilI]) H) ∧ (¬ Right l n → K (.tup [.nilS,.iface 37 (.int .i64 2)]) H)
  | _ => False⟩
abbrev C51 := addC 35 spRight (addC 83 (lifted sp83) C0)
theorem C51_ok : COk C51 := addC_ok k35 (addC_ok k83L C0_ok)
theorem k51 : SpecOk R1.T S1 51 sp51 := by
  intro H args K h; unfold sp51 at h; dsimp only at h; split at h
  · rename_i l n
    obtain ⟨hl,hT,h1,h2⟩ := h
    replace hl := hl.out
    replace hT := hT.out
    refine st C51_ok (by kernel_rfl : R1.T.fn 51 = some ⟨61,Try.f51.body.getD .skip,[.tmp 4,.tmp 5]⟩) rfl rfl ?_
    (((repeat' ((conv => whnf); all_goals first | assumption | with_reducible exact True.intro | with_reducible apply And.intro | (intro q; first | (exfalso; exact Bool.noConfusion q) | (exfalso; with_reducible exact q rfl) | subst q | (replace q : false = false := q; clear q) | (replace q : true = true := q; clear q) | (revert q; intro)) | ((with_reducible show _ = _); exact rfl))); all_goals try (conv => whnf); all_goals simp only [eq_self,true_iff,Bool.false_eq_true,false_iff,ed_eta,fl_eta,pt_eta,B_mk,Int.toNat_natCast] at *; all_goals (try contradiction); all_goals try (refine Chk.mk ?_; omega)))
    · rename_i hR _
      refine ⟨Nat × List Ed,fun y => ([(6,.ol 0),(15,.sl 0 l),(16,.int .i64 l.length),(17,.int .i64 y.1)],[.list false false 97 0 y.2]),fun y => y.1 ≤ l.length ∧ y.2 = mgF (l.take y.1),fun y => l.length - y.1,(0,[]),⟨Nat.zero_le _,rfl⟩,?_,?_⟩
      · (repeat' ((conv => whnf); all_goals first | assumption | with_reducible exact True.intro | with_reducible apply And.intro | ((with_reducible show _ = _); exact rfl) | omega | trivial))
      · intro ⟨i,M⟩ ⟨hi,hM⟩
        dsimp only at hi hM
        have hml : M.length ≤ i := by rw [hM]; exact mgF_len l i hi
        have htx := hM ▸ mg_tx l i hi
        have hsl := sumT_le l i
        have hwM : wr .i64 ((M.length : Int) - 1) = (M.length : Int) - 1 := wr64 (by omega)
        have hwi : wr .i64 ((i : Int) + 1) = (i : Int) + 1 := wr64 (by omega)
        have hml1 : 0 < M.length → ((M.length : Int) - 1).toNat < M.length := by omega
        have nx : ∀ {e : Ed},l[i]? = some e → ∀ {M'},M' = mgStep M e → M' = mgF (l.take (i + 1)) := fun he M' h => by rw [mgF_step he,← hM]; exact h
        (((repeat' ((conv => whnf); all_goals first | assumption | with_reducible exact True.intro | with_reducible apply And.intro | (intro q; first | (exfalso; exact Bool.noConfusion q) | (exfalso; with_reducible exact q rfl) | subst q | (replace q : false = false := q; clear q) | (replace q : true = true := q; clear q) | (revert q; intro)) | ((with_reducible show _ = _); exact rfl))); all_goals try (conv => whnf); all_goals simp only [eq_self,true_iff,Bool.false_eq_true,false_iff,ed_eta,fl_eta,pt_eta,B_mk,Int.toNat_natCast] at *; all_goals (try contradiction); all_goals try (refine Chk.mk ?_; omega)))
        all_goals simp only [hwM,hwi,List.length_set] at *
        all_goals try (refine Chk.mk ?_; omega)
        all_goals try exact Chk.mk (show (M.length + 1) * 32 ≤ 140737488355328 by omega)
        · rename_i e he _ a1 a2 b _ _ _ _ _ _ ha2 _ hb
          obtain rfl := set_at hb
          have h3 := htx a2 (List.mem_of_getElem? ha2)
          have h4 := sumT_get he
          exact Chk.mk (show (B a2.tx).length + (B e.tx).length ≤ 9223372036854775807 by omega)
        · rename_i e he _ a1 a2 b1 b2 _ h0 heq _ ha1 _ ha2 _ hb1 hb2 _
          obtain rfl := set_at hb1
          obtain rfl := set_at hb2
          obtain rfl := same_at ha1 ha2 rfl
          refine ⟨(i + 1,(M.set ((M.length : Int) - 1).toNat ⟨a1.lo,e.hi,⟨⟨B a1.tx⟩⟩⟩).set ((M.length : Int) - 1).toNat ⟨a1.lo,e.hi,⟨⟨B a1.tx ++ B e.tx⟩⟩⟩),by simp only; omega,⟨by simp only; omega,nx he (mg_touch ha1 (by omega) heq rfl)⟩,by (repeat' ((conv => whnf); all_goals first | assumption | with_reducible exact True.intro | with_reducible apply And.intro | ((with_reducible show _ = _); exact rfl) | omega | trivial))⟩
        · rename_i e he _ a1 _ h0 hne _ ha1 _
          exact ⟨(i + 1,M ++ [e]),by simp only; omega,⟨by simp only; omega,nx he (mg_far ha1 (by omega) hne)⟩,by (repeat' ((conv => whnf); all_goals first | assumption | with_reducible exact True.intro | with_reducible apply And.intro | ((with_reducible show _ = _); exact rfl) | omega | trivial))⟩
        · rename_i e he _ _ h0 _
          exact ⟨(i + 1,M ++ [e]),by simp only; omega,⟨by simp only; omega,nx he (mg_first (by omega))⟩,by (repeat' ((conv => whnf); all_goals first | assumption | with_reducible exact True.intro | with_reducible apply And.intro | ((with_reducible show _ = _); exact rfl) | omega | trivial))⟩
        · rename_i l' hl' ht' hlt
          have : i = l.length := by omega
          subst this
          rw [List.take_length] at hM
          subst hM
          rw [List.drop_zero,ht']
          exact h1 (by assumption)
    · rename_i hR
      exact h2 (by assumption)
  · exact h.elim
end Go.Sx

