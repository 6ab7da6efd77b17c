/-
  SX: right workspaces, by the program and by the document.
-/
import Derived.Test.YtelpkdjibjddlaaEvSxZ1
namespace Go.Sx
open Go Go.Ev Go.RowKit Go.Proofs
set_option maxRecDepth 100000
set_option maxHeartbeats 4000000
def spPlace : Spec U1 := ⟨false,false,fun H args K => match args with
  | [.sl 1 l,.str x] => K (.int .i64 (placeS l ⟨⟨x⟩⟩)) H
  | _ => False⟩
theorem k50 : SpecOk R1.T S1 50 spPlace := by
  intro H args K h; unfold spPlace at h; dsimp only at h; split at h
  · rename_i l x
    refine st C0_ok (by kernel_rfl : R1.T.fn 50 = some ⟨20,Try.f50.body.getD .skip,[.tmp 4]⟩) rfl rfl ?_
    (((repeat' ((conv => whnf); all_goals first | assumption | with_reducible exact True.intro | with_reducible apply And.intro | (intro q; first | (exfalso; exact Bool.noConfusion q) | (exfalso; with_reducible exact q rfl) | subst q | (replace q : false = false := q; clear q) | (replace q : true = true := q; clear q) | (revert q; intro)) | ((with_reducible show _ = _); exact rfl))); all_goals try (conv => whnf); all_goals simp only [eq_self,true_iff,Bool.false_eq_true,false_iff,ed_eta,fl_eta,pt_eta,B_mk,Int.toNat_natCast] at *; all_goals (try contradiction); all_goals try (refine Chk.mk ?_; omega)))
    refine ⟨Nat,fun i => ([(0,.sl 1 l),(1,.str x),(5,.int .i64 i)],[]),fun i => i ≤ l.length ∧ NoB (fun f => B f.nm = x) l i,fun i => l.length - i,0,⟨Nat.zero_le _,NoB.zero⟩,?_,?_⟩
    · (repeat' ((conv => whnf); all_goals first | assumption | with_reducible exact True.intro | with_reducible apply And.intro | ((with_reducible show _ = _); exact rfl) | omega | trivial))
    · intro i ⟨hi,hn⟩
      (((repeat' ((conv => whnf); all_goals first | assumption | with_reducible exact True.intro | with_reducible apply And.intro | (intro q; first | (exfalso; exact Bool.noConfusion q) | (exfalso; with_reducible exact q rfl) | subst q | (replace q : false = false := q; clear q) | (replace q : true = true := q; clear q) | (revert q; intro)) | ((with_reducible show _ = _); exact rfl))); all_goals try (conv => whnf); all_goals simp only [eq_self,true_iff,Bool.false_eq_true,false_iff,ed_eta,fl_eta,pt_eta,B_mk,Int.toNat_natCast] at *; all_goals (try contradiction); all_goals try (refine Chk.mk ?_; omega)))
      · rename_i hb f hf hl he
        rw [place_at (x := ⟨⟨x⟩⟩) hn hf he] at h; exact h
      · rename_i hb f hf hw hl he
        refine ⟨i + 1,by omega,⟨by omega,hn.step hf he⟩,?_⟩
        rw [hw (by omega)]
        (repeat' ((conv => whnf); all_goals first | assumption | with_reducible exact True.intro | with_reducible apply And.intro | ((with_reducible show _ = _); exact rfl) | omega | trivial))
      · rw [place_none (x := ⟨⟨x⟩⟩) hn (by omega)] at h; exact h
  · exact h.elim
def FRto (l : List Fl) (i : Nat) : Prop := ∀ (k : Nat) (f : Fl),k < i → l[k]? = some f → Titled f.nm ∧ (((B f.tx).length : Nat) : Int) ≤ 4000 ∧ placeS l f.nm = k
theorem FRto.step {l : List Fl} {i : Nat} {f : Fl} (h : FRto l i) (he : l[i]? = some f) (h1 : Titled f.nm) (h2 : (((B f.tx).length : Nat) : Int) ≤ 4000) (h3 : placeS l f.nm = i) : FRto l (i + 1) := fun k g hk hg => by
  by_cases hki : k = i
  · subst hki; rw [he] at hg; cases hg; exact ⟨h1,h2,h3⟩
  · exact h k g (by omega) hg
def sp49 : Spec U1 := ⟨false,false,fun H args K => match args with
  | [.sl 1 l] => (∀ f ∈ l,f.Ok) ∧ ∀ q,(q = true ↔ FR l) → K (.bool q) H
  | _ => False⟩
theorem k49 : SpecOk R1.T S1 49 sp49 := by
  intro H args K h; unfold sp49 at h; dsimp only at h; split at h
  · rename_i l
    obtain ⟨ho,h⟩ := h
    refine st (addC_ok k50 (addC_ok k82 C0_ok)) (by kernel_rfl : R1.T.fn 49 = some ⟨45,Try.f49.body.getD .skip,[.tmp 2]⟩) rfl rfl ?_
    (((repeat' ((conv => whnf); all_goals first | assumption | with_reducible exact True.intro | with_reducible apply And.intro | (intro q; first | (exfalso; exact Bool.noConfusion q) | (exfalso; with_reducible exact q rfl) | subst q | (replace q : false = false := q; clear q) | (replace q : true = true := q; clear q) | (revert q; intro)) | ((with_reducible show _ = _); exact rfl))); all_goals try (conv => whnf); all_goals simp only [eq_self,true_iff,Bool.false_eq_true,false_iff,ed_eta,fl_eta,pt_eta,B_mk,Int.toNat_natCast] at *; all_goals (try contradiction); all_goals try (refine Chk.mk ?_; omega)))
    refine ⟨Nat,fun i => ([(0,.sl 1 l),(3,.int .i64 i)],[]),fun i => i ≤ l.length ∧ FRto l i,fun i => l.length - i,0,⟨Nat.zero_le _,fun k f hk => absurd hk (Nat.not_lt_zero k)⟩,?_,?_⟩
    · (repeat' ((conv => whnf); all_goals first | assumption | with_reducible exact True.intro | with_reducible apply And.intro | ((with_reducible show _ = _); exact rfl) | omega | trivial))
    · intro i ⟨hi,hn⟩
      have bad : ∀ f,l[i]? = some f → ¬ (Titled f.nm ∧ (((B f.tx).length : Nat) : Int) ≤ 4000 ∧ placeS l f.nm = i) → K (.bool false) H := fun f hf hg => h false ⟨nofun,fun hR => absurd (hR.2.2 i f hf) hg⟩
      have end0 : ∀ q,¬ (i : Int) < l.length → (q = true ↔ ¬ l.length = 0 ∧ l.length ≤ 8) → K (.bool q) H := fun q hi2 hq => h q (hq.trans ⟨fun g => ⟨g.1,g.2,fun k f hf => hn k f (by have := (List.getElem?_eq_some_iff.1 hf).1; omega) hf⟩,fun g => ⟨g.1,g.2.1⟩⟩)
      clear h
      (((repeat' ((conv => whnf); all_goals first | assumption | with_reducible exact True.intro | with_reducible apply And.intro | (intro q; first | (exfalso; exact Bool.noConfusion q) | (exfalso; with_reducible exact q rfl) | subst q | (replace q : false = false := q; clear q) | (replace q : true = true := q; clear q) | (revert q; intro)) | ((with_reducible show _ = _); exact rfl))); all_goals try (conv => whnf); all_goals simp only [eq_self,true_iff,Bool.false_eq_true,false_iff,ed_eta,fl_eta,pt_eta,B_mk,Int.toNat_natCast] at *; all_goals (try contradiction); all_goals try (refine Chk.mk ?_; omega)))
      · exact Chk.mk (ho _ (List.mem_of_getElem? (by assumption))).nm
      · rename_i hb f1 h1 f2 h2 f3 h3 hl ht hp hx
        exact bad f3 h3 fun g => by have := g.2.1; omega
      · rename_i hb f1 h1 f2 h2 f3 h3 hw hl ht hp hx
        obtain rfl := same_at h2 h1 rfl
        obtain rfl := same_at h3 h2 rfl
        have h5 : placeS l f3.nm ≤ i := place_le h1
        have h6 : ¬ placeS l f3.nm < i := hp
        refine ⟨i + 1,by omega,⟨by omega,hn.step h1 ht (by omega) (by omega)⟩,?_⟩
        rw [hw (by omega)]
        (repeat' ((conv => whnf); all_goals first | assumption | with_reducible exact True.intro | with_reducible apply And.intro | ((with_reducible show _ = _); exact rfl) | omega | trivial))
      · rename_i hb f1 h1 f2 h2 hl ht hp
        refine bad f2 h2 fun g => ?_
        have h6 : placeS l f2.nm < i := hp
        have := g.2.2
        omega
      · rename_i hb f1 h1 hl ht
        exact bad f1 h1 fun g => ht g.1
      · rename_i q hq h1 h2
        exact end0 q h1 ⟨fun g => ⟨by omega,by have := hq.1 g; omega⟩,fun g => hq.2 (by omega)⟩
      · rename_i h1 h2
        exact end0 false h1 ⟨nofun,fun g => absurd g.1 (by omega)⟩
  · exact h.elim
def sp48 : Spec U1 := ⟨false,false,fun H args K => match args with
  | [.sl 1 l] => ∀ q,(q = true ↔ FR l) → K (.bool q) H
  | _ => False⟩
theorem k48of (k80 : SpecOk R1.T S1 80 spPlace) : SpecOk R1.T S1 48 sp48 := by
  intro H args K h; unfold sp48 at h; dsimp only at h; split at h
  · rename_i l
    refine st (addC_ok k80 (addC_ok k81 C0_ok)) (by kernel_rfl : R1.T.fn 48 = some ⟨39,Try.f48.body.getD .skip,[.tmp 2]⟩) rfl rfl ?_
    (((repeat' ((conv => whnf); all_goals first | assumption | with_reducible exact True.intro | with_reducible apply And.intro | (intro q; first | (exfalso; exact Bool.noConfusion q) | (exfalso; with_reducible exact q rfl) | subst q | (replace q : false = false := q; clear q) | (replace q : true = true := q; clear q) | (revert q; intro)) | ((with_reducible show _ = _); exact rfl))); all_goals try (conv => whnf); all_goals simp only [eq_self,true_iff,Bool.false_eq_true,false_iff,ed_eta,fl_eta,pt_eta,B_mk,Int.toNat_natCast] at *; all_goals (try contradiction); all_goals try (refine Chk.mk ?_; omega)))
    · exact h false ⟨nofun,fun g => absurd g.2.1 (by omega)⟩
    · refine ⟨Nat,fun i => ([(0,.sl 1 l),(13,.sl 1 l),(14,.int .i64 l.length),(15,.int .i64 i)],[]),fun i => i ≤ l.length ∧ FRto l i,fun i => l.length - i,0,⟨Nat.zero_le _,fun k f hk => absurd hk (Nat.not_lt_zero k)⟩,?_,?_⟩
      · (repeat' ((conv => whnf); all_goals first | assumption | with_reducible exact True.intro | with_reducible apply And.intro | ((with_reducible show _ = _); exact rfl) | omega | trivial))
      · intro i ⟨hi,hn⟩
        have bad : ∀ f,l[i]? = some f → ¬ (Titled f.nm ∧ (((B f.tx).length : Nat) : Int) ≤ 4000 ∧ placeS l f.nm = i) → K (.bool false) H := fun f hf hg => h false ⟨nofun,fun hR => absurd (hR.2.2 i f hf) hg⟩
        (((repeat' ((conv => whnf); all_goals first | assumption | with_reducible exact True.intro | with_reducible apply And.intro | (intro q; first | (exfalso; exact Bool.noConfusion q) | (exfalso; with_reducible exact q rfl) | subst q | (replace q : false = false := q; clear q) | (replace q : true = true := q; clear q) | (revert q; intro)) | ((with_reducible show _ = _); exact rfl))); all_goals try (conv => whnf); all_goals simp only [eq_self,true_iff,Bool.false_eq_true,false_iff,ed_eta,fl_eta,pt_eta,B_mk,Int.toNat_natCast] at *; all_goals (try contradiction); all_goals try (refine Chk.mk ?_; omega)))
        · rename_i f hf hl ht hx hp
          exact bad f hf fun g => hp g.2.2
        · rename_i f hf hw hl ht hx hp
          refine ⟨i + 1,by omega,⟨by omega,hn.step hf ht (by omega) (Decidable.not_not.1 hp)⟩,?_⟩
          rw [hw (by omega)]
          (repeat' ((conv => whnf); all_goals first | assumption | with_reducible exact True.intro | with_reducible apply And.intro | ((with_reducible show _ = _); exact rfl) | omega | trivial))
        · rename_i f hf hl ht hx
          exact bad f hf fun g => by have := g.2.1; omega
        · rename_i f hf hl ht
          exact bad f hf fun g => ht g.1
        · exact h true ⟨fun _ => ⟨by omega,by omega,fun k f hf => hn k f (by have := (List.getElem?_eq_some_iff.1 hf).1; omega) hf⟩,fun _ => rfl⟩
    · exact h false ⟨nofun,fun g => absurd g.1 (by omega)⟩
  · exact h.elim
def sp47 : Spec U1 := ⟨false,false,fun H args K => match args with
  | [.sl 1 l] => K (.int .i64 (W (sizeF l))) H
  | _ => False⟩
theorem k47 : SpecOk R1.T S1 47 sp47 := by
  intro H args K h; unfold sp47 at h; dsimp only at h; split at h
  · rename_i l
    refine st C0_ok (by kernel_rfl : R1.T.fn 47 = some ⟨19,Try.f47.body.getD .skip,[.tmp 2]⟩) rfl rfl ?_
    (((repeat' ((conv => whnf); all_goals first | assumption | with_reducible exact True.intro | with_reducible apply And.intro | (intro q; first | (exfalso; exact Bool.noConfusion q) | (exfalso; with_reducible exact q rfl) | subst q | (replace q : false = false := q; clear q) | (replace q : true = true := q; clear q) | (revert q; intro)) | ((with_reducible show _ = _); exact rfl))); all_goals try (conv => whnf); all_goals simp only [eq_self,true_iff,Bool.false_eq_true,false_iff,ed_eta,fl_eta,pt_eta,B_mk,Int.toNat_natCast] at *; all_goals (try contradiction); all_goals try (refine Chk.mk ?_; omega)))
    refine ⟨Nat,fun i => ([(3,.int .i64 (W (sizeF (l.take i)))),(6,.sl 1 l),(7,.int .i64 l.length),(8,.int .i64 i)],[]),fun i => i ≤ l.length,fun i => l.length - i,0,Nat.zero_le _,?_,?_⟩
    · (repeat' ((conv => whnf); all_goals first | assumption | with_reducible exact True.intro | with_reducible apply And.intro | ((with_reducible show _ = _); exact rfl) | omega | trivial))
    · intro i hi
      (((repeat' ((conv => whnf); all_goals first | assumption | with_reducible exact True.intro | with_reducible apply And.intro | (intro q; first | (exfalso; exact Bool.noConfusion q) | (exfalso; with_reducible exact q rfl) | subst q | (replace q : false = false := q; clear q) | (replace q : true = true := q; clear q) | (revert q; intro)) | ((with_reducible show _ = _); exact rfl))); all_goals try (conv => whnf); all_goals simp only [eq_self,true_iff,Bool.false_eq_true,false_iff,ed_eta,fl_eta,pt_eta,B_mk,Int.toNat_natCast] at *; all_goals (try contradiction); all_goals try (refine Chk.mk ?_; omega)))
      · rename_i f hf hw1 hw hl
        refine ⟨i + 1,by omega,by omega,?_⟩
        rw [hw (by omega),show wr IntKind.i64 (W (sizeF (l.take i)) + ((B f.tx).length : Int)) = W (sizeF (l.take (i + 1))) from sizeF_step hf]
        (repeat' ((conv => whnf); all_goals first | assumption | with_reducible exact True.intro | with_reducible apply And.intro | ((with_reducible show _ = _); exact rfl) | omega | trivial))
      · obtain rfl : i = l.length := by omega
        rw [List.take_length]; exact h
  · exact h.elim
def sp40 : Spec U1 := ⟨false,false,fun H args K => match args with
  | [.sl 1 l] => (∀ f ∈ l,f.Ok) ∧ ∀ q,(q = true ↔ LargeF l) → K (.bool q) H
  | _ => False⟩
theorem k40 : SpecOk R1.T S1 40 sp40 := by
  intro H args K h; unfold sp40 at h; dsimp only at h; split at h
  · rename_i l
    obtain ⟨ho,h⟩ := h
    refine st C0_ok (by kernel_rfl : R1.T.fn 40 = some ⟨29,Try.f40.body.getD .skip,[.tmp 2]⟩) rfl rfl ?_
    (((repeat' ((conv => whnf); all_goals first | assumption | with_reducible exact True.intro | with_reducible apply And.intro | (intro q; first | (exfalso; exact Bool.noConfusion q) | (exfalso; with_reducible exact q rfl) | subst q | (replace q : false = false := q; clear q) | (replace q : true = true := q; clear q) | (revert q; intro)) | ((with_reducible show _ = _); exact rfl))); all_goals try (conv => whnf); all_goals simp only [eq_self,true_iff,Bool.false_eq_true,false_iff,ed_eta,fl_eta,pt_eta,B_mk,Int.toNat_natCast] at *; all_goals (try contradiction); all_goals try (refine Chk.mk ?_; omega)))
    refine ⟨Nat,fun i => ([(3,.int .i64 (sumF (l.take i))),(6,.sl 1 l),(7,.int .i64 l.length),(8,.int .i64 i)],[]),fun i => i ≤ l.length ∧ i ≤ 21 ∧ sumF (l.take i) ≤ 40000,fun i => l.length - i,0,⟨Nat.zero_le _,by decide,by simp [sumF]⟩,?_,?_⟩
    · (repeat' ((conv => whnf); all_goals first | assumption | with_reducible exact True.intro | with_reducible apply And.intro | ((with_reducible show _ = _); exact rfl) | omega | trivial))
    · intro i ⟨hi,hi2,hs⟩
      have hsum : ∀ f,l[i]? = some f → wr .i64 (((sumF (l.take i) : Nat) : Int) + wr .i64 (((B f.nm).length : Int) + ((B f.tx).length : Int))) = ((sumF (l.take (i + 1)) : Nat) : Int) := fun f hf => by
        have h1 := (ho f (List.mem_of_getElem? hf)).nm
        have h2 := (ho f (List.mem_of_getElem? hf)).tx
        rw [wr64 (x := ((B f.nm).length : Int) + ((B f.tx).length : Int)) (by omega),wr64 (by omega),sumF_step hf]
        omega
      have hle := sumF_le l (i + 1)
      (((repeat' ((conv => whnf); all_goals first | assumption | with_reducible exact True.intro | with_reducible apply And.intro | (intro q; first | (exfalso; exact Bool.noConfusion q) | (exfalso; with_reducible exact q rfl) | subst q | (replace q : false = false := q; clear q) | (replace q : true = true := q; clear q) | (revert q; intro)) | ((with_reducible show _ = _); exact rfl))); all_goals try (conv => whnf); all_goals simp only [eq_self,true_iff,Bool.false_eq_true,false_iff,ed_eta,fl_eta,pt_eta,B_mk,Int.toNat_natCast] at *; all_goals (try contradiction); all_goals try (refine Chk.mk ?_; omega)))
      · rename_i f hf hw1 hw2 hl ht hx
        rw [hsum f hf] at hx
        exact h true ⟨fun _ => .inr (by omega),fun _ => rfl⟩
      · rename_i f hf hw1 hw2 hw hl ht hx
        rw [hsum f hf] at hx
        refine ⟨i + 1,by omega,⟨by omega,by omega,by omega⟩,?_⟩
        rw [hw (by omega),hsum f hf]
        (repeat' ((conv => whnf); all_goals first | assumption | with_reducible exact True.intro | with_reducible apply And.intro | ((with_reducible show _ = _); exact rfl) | omega | trivial))
      · exact h true ⟨fun _ => .inl (by omega),fun _ => rfl⟩
      · obtain rfl : i = l.length := by omega
        rw [List.take_length] at hs
        exact h false ⟨nofun,fun g => by rcases g with g | g <;> omega⟩
  · exact h.elim
def sp44 : Spec U1 := ⟨false,false,fun H args K => match args with
  | [.sl 1 l,.str x] => FR l ∧ (placeS l ⟨⟨x⟩⟩ < 0 → K (.tup [.int .i64 0,.iface 37 (.int .i64 5)]) H) ∧ (¬ placeS l ⟨⟨x⟩⟩ < 0 → K (.tup [.int .i64 (placeS l ⟨⟨x⟩⟩),.nilI]) H)
  | _ => False⟩
theorem k44of (k80 : SpecOk R1.T S1 80 spPlace) : SpecOk R1.T S1 44 sp44 := by
  intro H args K h; unfold sp44 at h; dsimp only at h; split at h
  · rename_i l x
    obtain ⟨hF,h1,h2⟩ := h
    refine st (addC_ok k80 (addC_ok (k48of k80) C0_ok)) (by kernel_rfl : R1.T.fn 44 = some ⟨18,Try.f44.body.getD .skip,[.tmp 4,.tmp 5]⟩) rfl rfl ?_
    (((repeat' ((conv => whnf); all_goals first | assumption | with_reducible exact True.intro | with_reducible apply And.intro | (intro q; first | (exfalso; exact Bool.noConfusion q) | (exfalso; with_reducible exact q rfl) | subst q | (replace q : false = false := q; clear q) | (replace q : true = true := q; clear q) | (revert q; intro)) | ((with_reducible show _ = _); exact rfl))); all_goals try (conv => whnf); all_goals simp only [eq_self,true_iff,Bool.false_eq_true,false_iff,ed_eta,fl_eta,pt_eta,B_mk,Int.toNat_natCast] at *; all_goals (try contradiction); all_goals try (refine Chk.mk ?_; omega)))
    · exact h1 (by assumption)
    · exact h2 (by assumption)
  · exact h.elim
end Go.Sx

