/-
  SX: the law ShiftMakes: applying, plain lists.
-/
import Derived.Test.YtelpkdjibjddlaaEvK1
import Derived.Test.YtelpkdjibjddlaaEvJ9
set_option linter.unusedSimpArgs false
set_option linter.unusedVariables false
namespace Go.Sx
open Go Go.Ev Go.RowKit Go.Proofs
set_option maxRecDepth 100000
set_option maxHeartbeats 4000000
def sp75 : Spec U1 := ⟨false,false,fun H args K => match args with
  | [.sl 0 l,.func 76 [] []] => Chk (firstP Nothing l = -1) ∧ K (.bool false) H
  | _ => False⟩
theorem k75 : SpecOk R1.T S1 75 sp75 := by
  intro H args K h; unfold sp75 at h; dsimp only at h; split at h
  · obtain ⟨h0,h⟩ := h
    replace h0 := h0.out
    refine st (addC_ok k91 C0_ok) (by kernel_rfl : R1.T.fn 75 = some ⟨9,Try.f75.body.getD .skip,[.tmp 4]⟩) rfl rfl ?_
    (((repeat' ((conv => whnf); all_goals first | assumption | with_reducible exact True.intro | with_reducible apply And.intro | (intro q; first | (exfalso; exact Bool.noConfusion q) | (exfalso; with_reducible exact q rfl) | subst q | (replace q : false = false := q; clear q) | (replace q : true = true := q; clear q) | (revert q; intro)) | ((with_reducible show _ = _); exact rfl))); all_goals try (conv => whnf); all_goals simp only [eq_self,true_iff,Bool.false_eq_true,false_iff,ed_eta,fl_eta,pt_eta,B_mk,Int.toNat_natCast] at *; all_goals (try contradiction); all_goals try (refine Chk.mk ?_; omega)))
    rename_i q hq
    cases q with
    | true => exact absurd (hq.1 rfl) (by rw [h0]; decide)
    | false => exact h
  · exact h.elim
def sp36 : Spec U1 := ⟨false,false,fun H args K => match args with
  | [.sl 0 l,.int .i64 n] => Chk (0 ≤ n) ∧ Chk (Pl l n) ∧ K (.bool true) H
  | _ => False⟩
theorem k36 : SpecOk R1.T S1 36 sp36 := by
  intro H args K h; unfold sp36 at h; dsimp only at h; split at h
  · rename_i l n
    obtain ⟨hn,hp,h⟩ := h
    replace hn := hn.out
    replace hp := hp.out
    have hR := hp.right hn
    have hN : firstP Nothing l = -1 := firstP_none (i := l.length) (fun k _ e he => (hp.each k e he).2.2.2) (Nat.le_refl _)
    refine st (addC_ok j35 (addC_ok k75 C0_ok)) (by kernel_rfl : R1.T.fn 36 = some ⟨32,Try.f36.body.getD .skip,[.tmp 4]⟩) rfl rfl ?_
    (((repeat' ((conv => whnf); all_goals first | assumption | with_reducible exact True.intro | with_reducible apply And.intro | (intro q; first | (exfalso; exact Bool.noConfusion q) | (exfalso; with_reducible exact q rfl) | subst q | (replace q : false = false := q; clear q) | (replace q : true = true := q; clear q) | (revert q; intro)) | ((with_reducible show _ = _); exact rfl))); all_goals try (conv => whnf); all_goals simp only [eq_self,true_iff,Bool.false_eq_true,false_iff,ed_eta,fl_eta,pt_eta,B_mk,Int.toNat_natCast] at *; all_goals (try contradiction); all_goals try (refine Chk.mk ?_; omega)))
    · refine ⟨Nat,fun i => ([(0,.sl 0 l),(1,.int .i64 n),(4,.bool false),(5,.int .i64 ((i : Int) + 1))],[]),fun i => i = 0 ∨ i + 1 ≤ l.length,fun i => l.length - i,0,.inl rfl,?_,?_⟩
      · (repeat' ((conv => whnf); all_goals first | assumption | with_reducible exact True.intro | with_reducible apply And.intro | ((with_reducible show _ = _); exact rfl) | omega | trivial))
      · intro i hi
        (((repeat' ((conv => whnf); all_goals first | assumption | with_reducible exact True.intro | with_reducible apply And.intro | (intro q; first | (exfalso; exact Bool.noConfusion q) | (exfalso; with_reducible exact q rfl) | subst q | (replace q : false = false := q; clear q) | (replace q : true = true := q; clear q) | (revert q; intro)) | ((with_reducible show _ = _); exact rfl))); all_goals try (conv => whnf); all_goals simp only [eq_self,true_iff,Bool.false_eq_true,false_iff,ed_eta,fl_eta,pt_eta,B_mk,Int.toNat_natCast] at *; all_goals (try contradiction); all_goals try (refine Chk.mk ?_; omega)))
        · rename_i e1 he1 hw e2 he2 hlt heq
          rw [show (((i : Nat) : Int) + 1).toNat = i + 1 by omega] at he1
          rw [hw (by omega),show (((i : Nat) : Int) + 1 - 1).toNat = i by omega] at he2
          have := hp.sep i e1 e2 he1 he2
          omega
        · rename_i hw2 hlt _
          rw [hw2 (by omega)]
          exact ⟨i + 1,by omega,.inr (by omega),by (repeat' ((conv => whnf); all_goals first | assumption | with_reducible exact True.intro | with_reducible apply And.intro | ((with_reducible show _ = _); exact rfl) | omega | trivial))⟩
  · exact h.elim
theorem sum_grow {n : Int} : ∀ (l : List Ed) (a : Int),Chain l a n → ((sumT l : Nat) : Int) ≤ growS l + (n - a)
  | [],a,h => by
    have h : a ≤ n := h
    simp [sumT,growS]; omega
  | e :: r,a,h => by
    obtain ⟨h1,h2,h3,h4⟩ := h
    have := sum_grow r e.hi h4
    rw [sumT_cons,growS_cons]
    omega
theorem may_small {n : Nat} {l : List Ed} (hs : n + sumT l ≤ 60000) (hR : Right l (n : Int)) : mayC n l = 0 := by
  obtain ⟨h1,h2,h3⟩ := grow_bd hR
  refine mayOk hR ?_
  rw [W_id (x := growS l) (by omega) (by omega),W_id (by omega) (by omega)]
  omega
def sp29e : Spec U1 := ⟨false,false,fun H args K => match args with
  | [.str x,.sl 0 l] => Chk (x.length + sumT l ≤ 60000) ∧ (Right l (x.length : Nat) → K (.tup [.str (B (apS ⟨⟨x⟩⟩ l)),.nilI]) H) ∧ (¬ Right l (x.length : Nat) → K (.tup [.str [],.iface 37 (.int .i64 2)]) H)
  | _ => False⟩
theorem k29e : SpecOk R1.T S1 29 sp29e := by
  intro H args K h; unfold sp29e at h; dsimp only at h; split at h
  · rename_i x l
    obtain ⟨hs,h1,h2⟩ := h
    replace hs := hs.out
    refine k29 _ _ _ ⟨by omega,by omega,fun h0 => h1 (may0 h0).1,fun h0 => ?_⟩
    have hR : ¬ Right l (x.length : Nat) := fun hR => h0 (may_small hs hR)
    rw [may2 hR]
    exact h2 hR
  · exact h.elim
abbrev C11 := addC 16 sp16 (addC 29 sp29e (addC 55 sp55e (addC 36 sp36 (addC 17 sp17j C0))))
theorem C11_ok : COk C11 := addC_ok k16 (addC_ok k29e (addC_ok k55e (addC_ok k36 (addC_ok k17j C0_ok))))
theorem walk11 (x : List UInt8) (a : List Ed) (ha : ∀ e ∈ a,e.Ok) (b : List Ed) (hb : ∀ e ∈ b,e.Ok) :
    wp ⟨S1,C11,119,0,fun _ => none⟩ (restOf (Try.f11.body.getD .skip)) ((18,.bool false) :: (17,.bool true) :: (6,.bool false) :: frm0 0 [.str x,.sl 0 a,.sl 0 b]) [] (fin ⟨S1,C11,119,0,fun _ => none⟩ [.tmp 6] fun v _ => v = .bool true) := by
  by_cases hA : Large3 (x.length : Nat) a
  · (((repeat' ((conv => whnf); all_goals first | assumption | with_reducible exact True.intro | with_reducible apply And.intro | (intro q; first | (exfalso; exact Bool.noConfusion q) | (exfalso; with_reducible exact q rfl) | (exfalso; contradiction) | subst q | (replace q : false = false := q; clear q) | (replace q : true = true := q; clear q) | (revert q; intro)) | ((with_reducible show _ = _); exact rfl))); all_goals try (conv => whnf); all_goals simp only [eq_self,true_iff,Bool.false_eq_true,false_iff,ed_eta,fl_eta,pt_eta,B_mk,Int.toNat_natCast] at *; all_goals (try contradiction); all_goals try (refine Chk.mk ?_; omega)))
    all_goals first
      | rfl
      | exact Chk.mk ha
  by_cases hB : Large3 0 b
  · (((repeat' ((conv => whnf); all_goals first | assumption | with_reducible exact True.intro | with_reducible apply And.intro | (intro q; first | (exfalso; exact Bool.noConfusion q) | (exfalso; with_reducible exact q rfl) | (exfalso; contradiction) | subst q | (replace q : false = false := q; clear q) | (replace q : true = true := q; clear q) | (revert q; intro)) | ((with_reducible show _ = _); exact rfl))); all_goals try (conv => whnf); all_goals simp only [eq_self,true_iff,Bool.false_eq_true,false_iff,ed_eta,fl_eta,pt_eta,B_mk,Int.toNat_natCast] at *; all_goals (try contradiction); all_goals try (refine Chk.mk ?_; omega)))
    all_goals first
      | rfl
      | exact Chk.mk ha
      | exact Chk.mk hb
  have hj : JOk a b (x.length : Nat) := jok_of hA hB
  obtain ⟨ja,jb,jsa,jsb,jn⟩ := id hj
  by_cases hR : Right a (x.length : Nat)
  · have hl : (((B (apS ⟨⟨x⟩⟩ a)).length : Nat) : Int) = (x.length : Nat) + growS a := ap_len (x := ⟨⟨x⟩⟩) hR
    obtain ⟨gb1,gb2,gb3⟩ := grow_bd hR
    by_cases hRb : Right b ((x.length : Nat) + growS a)
    · have hJ : JR a b (x.length : Nat) := ⟨hR,hRb⟩
      obtain ⟨hpl,hvu⟩ := make_all (x := ⟨⟨x⟩⟩) hj hR hRb
      replace hpl : Pl (joinS a b (x.length : Nat)) (x.length : Nat) := hpl
      replace hvu : B (apS ⟨⟨x⟩⟩ (joinS a b (x.length : Nat))) = B (apS ⟨⟨B (apS ⟨⟨x⟩⟩ a)⟩⟩ b) := hvu
      have hRb' : Right b ((B (apS ⟨⟨x⟩⟩ a)).length : Nat) := by rw [hl]; exact hRb
      have hRJ : Right (joinS a b (x.length : Nat)) (x.length : Nat) := hpl.right (by omega)
      have hsJ : sumT (joinS a b (x.length : Nat)) ≤ 2000 := by
        have h1 := sum_grow _ 0 hRJ.chain
        have h2 : (((B (apS ⟨⟨x⟩⟩ (joinS a b (x.length : Nat)))).length : Nat) : Int) = (x.length : Nat) + growS (joinS a b (x.length : Nat)) := ap_len (x := ⟨⟨x⟩⟩) hRJ
        have h3 : (((B (apS ⟨⟨B (apS ⟨⟨x⟩⟩ a)⟩⟩ b)).length : Nat) : Int) = ((B (apS ⟨⟨x⟩⟩ a)).length : Nat) + growS b := ap_len (x := ⟨⟨B (apS ⟨⟨x⟩⟩ a)⟩⟩) hRb'
        rw [hvu,h3] at h2
        obtain ⟨c1,c2,c3⟩ := grow_bd hRb
        omega
      (((repeat' ((conv => whnf); all_goals first | assumption | with_reducible exact True.intro | with_reducible apply And.intro | (intro q; first | (exfalso; exact Bool.noConfusion q) | (exfalso; with_reducible exact q rfl) | (exfalso; contradiction) | subst q | (replace q : false = false := q; clear q) | (replace q : true = true := q; clear q) | (revert q; intro)) | ((with_reducible show _ = _); exact rfl))); all_goals try (conv => whnf); all_goals simp only [eq_self,true_iff,Bool.false_eq_true,false_iff,ed_eta,fl_eta,pt_eta,B_mk,Int.toNat_natCast] at *; all_goals (try contradiction); all_goals try (refine Chk.mk ?_; omega)))
      all_goals first
        | exact Chk.mk ha
        | exact Chk.mk hb
        | exact Chk.mk hj
        | exact Chk.mk hpl
        | (refine Chk.mk ?_; omega)
        | skip
      refine ⟨Nat,fun i => ([(0,.str x),(1,.sl 0 a),(7,.str (B (apS ⟨⟨x⟩⟩ a))),(85,.int .i64 x.length),(86,.int .i64 i)],[]),fun i => i ≤ x.length,fun i => x.length - i,0,Nat.zero_le _,?_,?_⟩
      · (repeat' ((conv => whnf); all_goals first | assumption | with_reducible exact True.intro | with_reducible apply And.intro | ((with_reducible show _ = _); exact rfl) | omega | trivial))
      · intro i hi
        have hgo : ((i : Nat) : Int) < (x.length : Nat) → (goS a (x.length : Nat) (i : Int)).2 = 0 → ∃ j : Nat,(goS a (x.length : Nat) (i : Int)).1 = (j : Int) ∧ j < (B (apS ⟨⟨x⟩⟩ a)).length ∧ (B (apS ⟨⟨x⟩⟩ a))[j]? = x[i]? := fun h1 h2 => goes_byte (x := ⟨⟨x⟩⟩) hj hR (by omega : i < x.length) h2
        (((repeat' ((conv => whnf); all_goals first | assumption | with_reducible exact True.intro | with_reducible apply And.intro | (intro q; first | (exfalso; exact Bool.noConfusion q) | (exfalso; with_reducible exact q rfl) | (exfalso; contradiction) | subst q | (replace q : false = false := q; clear q) | (replace q : true = true := q; clear q) | (revert q; intro)) | ((with_reducible show _ = _); exact rfl))); all_goals try (conv => whnf); all_goals simp only [eq_self,true_iff,Bool.false_eq_true,false_iff,ed_eta,fl_eta,pt_eta,B_mk,Int.toNat_natCast] at *; all_goals (try contradiction); all_goals try (refine Chk.mk ?_; omega)))
        · rename_i h0 u hu v hv hlt _ _ hne
          obtain ⟨j,g1,g2,g3⟩ := hgo hlt h0
          rw [g1,Int.toNat_natCast,g3,hv] at hu
          cases hu
          exact absurd rfl hne
        · rename_i hw hlt _ _ _
          rw [hw (by omega)]
          exact ⟨i + 1,by omega,by omega,by (repeat' ((conv => whnf); all_goals first | assumption | with_reducible exact True.intro | with_reducible apply And.intro | ((with_reducible show _ = _); exact rfl) | omega | trivial))⟩
        · rename_i h0 hlt _ hge
          obtain ⟨j,g1,g2,g3⟩ := hgo hlt h0
          rw [g1] at hge
          omega
        · rename_i h0 hlt hneg
          obtain ⟨j,g1,g2,g3⟩ := hgo hlt h0
          rw [g1] at hneg
          omega
        · rename_i hw hlt
          rw [hw (by omega)]
          exact ⟨i + 1,by omega,by omega,by (repeat' ((conv => whnf); all_goals first | assumption | with_reducible exact True.intro | with_reducible apply And.intro | ((with_reducible show _ = _); exact rfl) | omega | trivial))⟩
    · have hJ : ¬ JR a b (x.length : Nat) := fun h => hRb h.rb
      have hRb' : ¬ Right b ((B (apS ⟨⟨x⟩⟩ a)).length : Nat) := by rw [hl]; exact hRb
      (((repeat' ((conv => whnf); all_goals first | assumption | with_reducible exact True.intro | with_reducible apply And.intro | (intro q; first | (exfalso; exact Bool.noConfusion q) | (exfalso; with_reducible exact q rfl) | (exfalso; contradiction) | subst q | (replace q : false = false := q; clear q) | (replace q : true = true := q; clear q) | (revert q; intro)) | ((with_reducible show _ = _); exact rfl))); all_goals try (conv => whnf); all_goals simp only [eq_self,true_iff,Bool.false_eq_true,false_iff,ed_eta,fl_eta,pt_eta,B_mk,Int.toNat_natCast] at *; all_goals (try contradiction); all_goals try (refine Chk.mk ?_; omega)))
      all_goals first
        | exact Chk.mk ha
        | exact Chk.mk hb
        | exact Chk.mk hj
        | (refine Chk.mk ?_; omega)
        | skip
      rename_i q hq
      have hq1 : q = true := hq.2 rfl
      subst hq1
      (((repeat' ((conv => whnf); all_goals first | assumption | with_reducible exact True.intro | with_reducible apply And.intro | (intro q; first | (exfalso; exact Bool.noConfusion q) | (exfalso; with_reducible exact q rfl) | (exfalso; contradiction) | subst q | (replace q : false = false := q; clear q) | (replace q : true = true := q; clear q) | (revert q; intro)) | ((with_reducible show _ = _); exact rfl))); all_goals try (conv => whnf); all_goals simp only [eq_self,true_iff,Bool.false_eq_true,false_iff,ed_eta,fl_eta,pt_eta,B_mk,Int.toNat_natCast] at *; all_goals (try contradiction); all_goals try (refine Chk.mk ?_; omega)))
      all_goals rfl
  · (((repeat' ((conv => whnf); all_goals first | assumption | with_reducible exact True.intro | with_reducible apply And.intro | (intro q; first | (exfalso; exact Bool.noConfusion q) | (exfalso; with_reducible exact q rfl) | (exfalso; contradiction) | subst q | (replace q : false = false := q; clear q) | (replace q : true = true := q; clear q) | (revert q; intro)) | ((with_reducible show _ = _); exact rfl))); all_goals try (conv => whnf); all_goals simp only [eq_self,true_iff,Bool.false_eq_true,false_iff,ed_eta,fl_eta,pt_eta,B_mk,Int.toNat_natCast] at *; all_goals (try contradiction); all_goals try (refine Chk.mk ?_; omega)))
    all_goals first
      | exact Chk.mk ha
      | exact Chk.mk hb
      | (refine Chk.mk ?_; omega)
      | skip
    rename_i q hq
    rw [hq.2 trivial]
    rfl
end Go.Sx

