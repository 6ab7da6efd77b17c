/-
  SX: files' titles and right workspaces, by the program and by the document.
-/
import Derived.Test.YtelpkdjibjddlaaEvC0
namespace Go.Sx
open Go Go.Ev Go.RowKit Go.Proofs
set_option maxRecDepth 100000
set_option maxHeartbeats 4000000
def sp97 : Spec U1 := ⟨false,false,fun H args K => match args with
  | [.int .i32 c] => ∀ q,(q = true ↔ PlainC c) → K (.bool q) H
  | _ => False⟩
theorem k97 : SpecOk R1.T S1 97 sp97 := by
  intro H args K h; unfold sp97 at h; dsimp only at h; split at h
  · refine st C0_ok (by kernel_rfl : R1.T.fn 97 = some ⟨37,Try.f97.body.getD .skip,[.tmp 2]⟩) rfl rfl ?_
    (repeat' ((conv => whnf); all_goals first | assumption | with_reducible exact True.intro | with_reducible apply And.intro | (intro q; first | (exfalso; exact Bool.noConfusion q) | (exfalso; with_reducible exact q rfl) | subst q | (revert q; intro)) | ((with_reducible show _ = _); exact rfl)))
    all_goals (refine h _ ?_; clear h; unfold PlainC; grind)
  · exact h.elim
def sp96 : Spec U1 := ⟨false,false,fun H args K => match args with
  | [.int .i32 c] => ∀ q,(q = true ↔ ¬ PlainC c) → K (.bool q) H
  | _ => False⟩
theorem k96 : SpecOk R1.T S1 96 sp96 := by
  intro H args K h; unfold sp96 at h; dsimp only at h; split at h
  · refine st (addC_ok k97 C0_ok) (by kernel_rfl : R1.T.fn 96 = some ⟨6,Try.f96.body.getD .skip,[.tmp 2]⟩) rfl rfl ?_
    (repeat' ((conv => whnf); all_goals first | assumption | with_reducible exact True.intro | with_reducible apply And.intro | (intro q; first | (exfalso; exact Bool.noConfusion q) | (exfalso; with_reducible exact q rfl) | subst q | (revert q; intro)) | ((with_reducible show _ = _); exact rfl)))
    all_goals (refine h _ ?_; clear h; grind)
  · exact h.elim
def sp104 : Spec U1 := ⟨false,false,fun H args K => match args with
  | [.str x,.func 96 [] [],.bool true] => K (.int .i64 (badS ⟨⟨x⟩⟩)) H
  | _ => False⟩
theorem k104 : SpecOk R1.T S1 104 sp104 := by
  intro H args K h; unfold sp104 at h; dsimp only at h; split at h
  · rename_i x
    refine st (addC_ok k96 C0_ok) (by kernel_rfl : R1.T.fn 104 = some ⟨21,Try.f104.body.getD .skip,[.tmp 6]⟩) rfl rfl ?_
    (((repeat' ((conv => whnf); all_goals first | assumption | with_reducible exact True.intro | with_reducible apply And.intro | (intro q; first | (exfalso; exact Bool.noConfusion q) | (exfalso; with_reducible exact q rfl) | subst q | (replace q : false = false := q; clear q) | (replace q : true = true := q; clear q) | (revert q; intro)) | ((with_reducible show _ = _); exact rfl))); all_goals try (conv => whnf); all_goals simp only [eq_self,true_iff,Bool.false_eq_true,false_iff,ed_eta,fl_eta,pt_eta,B_mk,Int.toNat_natCast] at *; all_goals (try contradiction); all_goals try (refine Chk.mk ?_; omega)))
    refine ⟨Nat,fun i => ([(0,.str x),(1,.func 96 [] []),(2,.bool true),(10,.ptr 0 0)],[.siter x i]),fun i => NoB (fun b => ¬ PlainB b) x i,fun i => x.length - i,0,NoB.zero,?_,?_⟩
    · (repeat' ((conv => whnf); all_goals first | assumption | with_reducible exact True.intro | with_reducible apply And.intro | ((with_reducible show _ = _); exact rfl) | omega | trivial))
    · intro i hi
      (((repeat' ((conv => whnf); all_goals first | assumption | with_reducible exact True.intro | with_reducible apply And.intro | (intro q; first | (exfalso; exact Bool.noConfusion q) | (exfalso; with_reducible exact q rfl) | subst q | (replace q : false = false := q; clear q) | (replace q : true = true := q; clear q) | (revert q; intro)) | ((with_reducible show _ = _); exact rfl))); all_goals try (conv => whnf); all_goals simp only [eq_self,true_iff,Bool.false_eq_true,false_iff,ed_eta,fl_eta,pt_eta,B_mk,Int.toNat_natCast] at *; all_goals (try contradiction); all_goals try (refine Chk.mk ?_; omega)))
      · rename_i hl c w hd q hq ht
        have hb := List.getElem?_eq_getElem hl
        rw [badS_at (x := ⟨⟨x⟩⟩) hi hb (dec_bad (x := ⟨⟨x⟩⟩) hb (by rw [hd]; exact hq.1 ht))] at h
        exact h
      · rename_i hl c w hd q hq ht
        have hb := List.getElem?_eq_getElem hl
        obtain ⟨g1,g2⟩ := dec_plain (x := ⟨⟨x⟩⟩) hb (by rw [hd]; exact Decidable.not_not.1 fun g => ht (hq.2 g))
        rw [hd] at g2
        obtain rfl : w = 1 := g2
        refine ⟨i + 1,by omega,hi.step hb (not_not_intro g1),?_⟩
        (repeat' ((conv => whnf); all_goals first | assumption | with_reducible exact True.intro | with_reducible apply And.intro | ((with_reducible show _ = _); exact rfl) | omega | trivial))
      · conv => whnf
        rw [badS_none (x := ⟨⟨x⟩⟩) hi (by exact Nat.not_lt.1 (by assumption))] at h
        exact h
  · exact h.elim
def sp103 : Spec U1 := ⟨false,false,fun H args K => match args with
  | [.str x,.func 96 [] []] => K (.int .i64 (badS ⟨⟨x⟩⟩)) H
  | _ => False⟩
theorem k103 : SpecOk R1.T S1 103 sp103 := by
  intro H args K h; unfold sp103 at h; dsimp only at h; split at h
  · refine st (addC_ok k104 C0_ok) (by kernel_rfl : R1.T.fn 103 = some ⟨8,Try.f103.body.getD .skip,[.tmp 4]⟩) rfl rfl ?_
    (repeat' ((conv => whnf); all_goals first | assumption | with_reducible exact True.intro | with_reducible apply And.intro | (intro q; first | (exfalso; exact Bool.noConfusion q) | (exfalso; with_reducible exact q rfl) | subst q | (revert q; intro)) | ((with_reducible show _ = _); exact rfl)))
  · exact h.elim
def sp98 : Spec U1 := ⟨false,false,fun H args K => match args with
  | [.str x,.func 96 [] []] => ∀ q,(q = true ↔ 0 ≤ badS ⟨⟨x⟩⟩) → K (.bool q) H
  | _ => False⟩
theorem k98 : SpecOk R1.T S1 98 sp98 := by
  intro H args K h; unfold sp98 at h; dsimp only at h; split at h
  · refine st (addC_ok k103 C0_ok) (by kernel_rfl : R1.T.fn 98 = some ⟨9,Try.f98.body.getD .skip,[.tmp 4]⟩) rfl rfl ?_
    (repeat' ((conv => whnf); all_goals first | assumption | with_reducible exact True.intro | with_reducible apply And.intro | (intro q; first | (exfalso; exact Bool.noConfusion q) | (exfalso; with_reducible exact q rfl) | subst q | (revert q; intro)) | ((with_reducible show _ = _); exact rfl)))
    all_goals exact h _ (by assumption)
  · exact h.elim
def sp81 : Spec U1 := ⟨false,false,fun H args K => match args with
  | [.str x] => ∀ q,(q = true ↔ Titled ⟨⟨x⟩⟩) → K (.bool q) H
  | _ => False⟩
theorem k81 : SpecOk R1.T S1 81 sp81 := by
  intro H args K h; unfold sp81 at h; dsimp only at h; split at h
  · refine st (addC_ok k98 C0_ok) (by kernel_rfl : R1.T.fn 81 = some ⟨17,Try.f81.body.getD .skip,[.tmp 2]⟩) rfl rfl ?_
    (repeat' ((conv => whnf); all_goals first | assumption | with_reducible exact True.intro | with_reducible apply And.intro | (intro q; first | (exfalso; exact Bool.noConfusion q) | (exfalso; with_reducible exact q rfl) | subst q | (revert q; intro)) | ((with_reducible show _ = _); exact rfl)))
    all_goals conv => whnf
    all_goals (refine h _ ?_; clear h; unfold Titled; simp only [show B ByteArray.empty = [] from rfl,B_mk]; simp_all; try omega)
  · exact h.elim
end Go.Sx

/-
  SX: right workspaces, by the program and by the document.
-/
namespace Go.Sx
open Go Go.Ev Go.RowKit Go.Proofs
set_option maxRecDepth 100000
set_option maxHeartbeats 4000000
def spPlace : Spec U1 := ⟨false,false,fun H args K => match args with
  | [.sl 1 l,.str x] => K (.int .i64 (placeS l ⟨⟨x⟩⟩)) H
  | _ => False⟩
def FRto (l : List Fl) (i : Nat) : Prop := ∀ (k : Nat) (f : Fl),k < i → l[k]? = some f → Titled f.nm ∧ (((B f.tx).length : Nat) : Int) ≤ 4000 ∧ placeS l f.nm = k
theorem FRto.step {l : List Fl} {i : Nat} {f : Fl} (h : FRto l i) (he : l[i]? = some f) (h1 : Titled f.nm) (h2 : (((B f.tx).length : Nat) : Int) ≤ 4000) (h3 : placeS l f.nm = i) : FRto l (i + 1) := fun k g hk hg => by
  by_cases hki : k = i
  · subst hki; rw [he] at hg; cases hg; exact ⟨h1,h2,h3⟩
  · exact h k g (by omega) hg
def sp49 : Spec U1 := ⟨false,false,fun H args K => match args with
  | [.sl 1 l] => (∀ f ∈ l,f.Ok) ∧ ∀ q,(q = true ↔ FR l) → K (.bool q) H
  | _ => False⟩
def sp48 : Spec U1 := ⟨false,false,fun H args K => match args with
  | [.sl 1 l] => ∀ q,(q = true ↔ FR l) → K (.bool q) H
  | _ => False⟩
theorem k48of (k80 : SpecOk R1.T S1 80 spPlace) : SpecOk R1.T S1 48 sp48 := by
  intro H args K h; unfold sp48 at h; dsimp only at h; split at h
  · rename_i l
    refine st (addC_ok k80 (addC_ok k81 C0_ok)) (by kernel_rfl : R1.T.fn 48 = some ⟨39,Try.f48.body.getD .skip,[.tmp 2]⟩) rfl rfl ?_
    (((repeat' ((conv => whnf); all_goals first | assumption | with_reducible exact True.intro | with_reducible apply And.intro | (intro q; first | (exfalso; exact Bool.noConfusion q) | (exfalso; with_reducible exact q rfl) | subst q | (replace q : false = false := q; clear q) | (replace q : true = true := q; clear q) | (revert q; intro)) | ((with_reducible show _ = _); exact rfl))); all_goals try (conv => whnf); all_goals simp only [eq_self,true_iff,Bool.false_eq_true,false_iff,ed_eta,fl_eta,pt_eta,B_mk,Int.toNat_natCast] at *; all_goals (try contradiction); all_goals try (refine Chk.mk ?_; omega)))
    · exact h false ⟨nofun,fun g => absurd g.2.1 (by omega)⟩
    · refine ⟨Nat,fun i => ([(0,.sl 1 l),(13,.sl 1 l),(14,.int .i64 l.length),(15,.int .i64 i)],[]),fun i => i ≤ l.length ∧ FRto l i,fun i => l.length - i,0,⟨Nat.zero_le _,fun k f hk => absurd hk (Nat.not_lt_zero k)⟩,?_,?_⟩
      · (repeat' ((conv => whnf); all_goals first | assumption | with_reducible exact True.intro | with_reducible apply And.intro | ((with_reducible show _ = _); exact rfl) | omega | trivial))
      · intro i ⟨hi,hn⟩
        have bad : ∀ f,l[i]? = some f → ¬ (Titled f.nm ∧ (((B f.tx).length : Nat) : Int) ≤ 4000 ∧ placeS l f.nm = i) → K (.bool false) H := fun f hf hg => h false ⟨nofun,fun hR => absurd (hR.2.2 i f hf) hg⟩
        (((repeat' ((conv => whnf); all_goals first | assumption | with_reducible exact True.intro | with_reducible apply And.intro | (intro q; first | (exfalso; exact Bool.noConfusion q) | (exfalso; with_reducible exact q rfl) | subst q | (replace q : false = false := q; clear q) | (replace q : true = true := q; clear q) | (revert q; intro)) | ((with_reducible show _ = _); exact rfl))); all_goals try (conv => whnf); all_goals simp only [eq_self,true_iff,Bool.false_eq_true,false_iff,ed_eta,fl_eta,pt_eta,B_mk,Int.toNat_natCast] at *; all_goals (try contradiction); all_goals try (refine Chk.mk ?_; omega)))
        · rename_i f hf hl ht hx hp
          exact bad f hf fun g => hp g.2.2
        · rename_i f hf hw hl ht hx hp
          refine ⟨i + 1,by omega,⟨by omega,hn.step hf ht (by omega) (Decidable.not_not.1 hp)⟩,?_⟩
          rw [hw (by omega)]
          (repeat' ((conv => whnf); all_goals first | assumption | with_reducible exact True.intro | with_reducible apply And.intro | ((with_reducible show _ = _); exact rfl) | omega | trivial))
        · rename_i f hf hl ht hx
          exact bad f hf fun g => by have := g.2.1; omega
        · rename_i f hf hl ht
          exact bad f hf fun g => ht g.1
        · exact h true ⟨fun _ => ⟨by omega,by omega,fun k f hf => hn k f (by have := (List.getElem?_eq_some_iff.1 hf).1; omega) hf⟩,fun _ => rfl⟩
    · exact h false ⟨nofun,fun g => absurd g.1 (by omega)⟩
  · exact h.elim
def sp40 : Spec U1 := ⟨false,false,fun H args K => match args with
  | [.sl 1 l] => (∀ f ∈ l,f.Ok) ∧ ∀ q,(q = true ↔ LargeF l) → K (.bool q) H
  | _ => False⟩
theorem k40 : SpecOk R1.T S1 40 sp40 := by
  intro H args K h; unfold sp40 at h; dsimp only at h; split at h
  · rename_i l
    obtain ⟨ho,h⟩ := h
    refine st C0_ok (by kernel_rfl : R1.T.fn 40 = some ⟨29,Try.f40.body.getD .skip,[.tmp 2]⟩) rfl rfl ?_
    (((repeat' ((conv => whnf); all_goals first | assumption | with_reducible exact True.intro | with_reducible apply And.intro | (intro q; first | (exfalso; exact Bool.noConfusion q) | (exfalso; with_reducible exact q rfl) | subst q | (replace q : false = false := q; clear q) | (replace q : true = true := q; clear q) | (revert q; intro)) | ((with_reducible show _ = _); exact rfl))); all_goals try (conv => whnf); all_goals simp only [eq_self,true_iff,Bool.false_eq_true,false_iff,ed_eta,fl_eta,pt_eta,B_mk,Int.toNat_natCast] at *; all_goals (try contradiction); all_goals try (refine Chk.mk ?_; omega)))
    refine ⟨Nat,fun i => ([(3,.int .i64 (sumF (l.take i))),(6,.sl 1 l),(7,.int .i64 l.length),(8,.int .i64 i)],[]),fun i => i ≤ l.length ∧ i ≤ 21 ∧ sumF (l.take i) ≤ 40000,fun i => l.length - i,0,⟨Nat.zero_le _,by decide,by simp [sumF]⟩,?_,?_⟩
    · (repeat' ((conv => whnf); all_goals first | assumption | with_reducible exact True.intro | with_reducible apply And.intro | ((with_reducible show _ = _); exact rfl) | omega | trivial))
    · intro i ⟨hi,hi2,hs⟩
      have hsum : ∀ f,l[i]? = some f → wr .i64 (((sumF (l.take i) : Nat) : Int) + wr .i64 (((B f.nm).length : Int) + ((B f.tx).length : Int))) = ((sumF (l.take (i + 1)) : Nat) : Int) := fun f hf => by
        have h1 := (ho f (List.mem_of_getElem? hf)).nm
        have h2 := (ho f (List.mem_of_getElem? hf)).tx
        rw [wr64 (x := ((B f.nm).length : Int) + ((B f.tx).length : Int)) (by omega),wr64 (by omega),sumF_step hf]
        omega
      have hle := sumF_le l (i + 1)
      (((repeat' ((conv => whnf); all_goals first | assumption | with_reducible exact True.intro | with_reducible apply And.intro | (intro q; first | (exfalso; exact Bool.noConfusion q) | (exfalso; with_reducible exact q rfl) | subst q | (replace q : false = false := q; clear q) | (replace q : true = true := q; clear q) | (revert q; intro)) | ((with_reducible show _ = _); exact rfl))); all_goals try (conv => whnf); all_goals simp only [eq_self,true_iff,Bool.false_eq_true,false_iff,ed_eta,fl_eta,pt_eta,B_mk,Int.toNat_natCast] at *; all_goals (try contradiction); all_goals try (refine Chk.mk ?_; omega)))
      · rename_i f hf hw1 hw2 hl ht hx
        rw [hsum f hf] at hx
        exact h true ⟨fun _ => .inr (by omega),fun _ => rfl⟩
      · rename_i f hf hw1 hw2 hw hl ht hx
        rw [hsum f hf] at hx
        refine ⟨i + 1,by omega,⟨by omega,by omega,by omega⟩,?_⟩
        rw [hw (by omega),hsum f hf]
        (repeat' ((conv => whnf); all_goals first | assumption | with_reducible exact True.intro | with_reducible apply And.intro | ((with_reducible show _ = _); exact rfl) | omega | trivial))
      · exact h true ⟨fun _ => .inl (by omega),fun _ => rfl⟩
      · obtain rfl : i = l.length := by omega
        rw [List.take_length] at hs
        exact h false ⟨nofun,fun g => by rcases g with g | g <;> omega⟩
  · exact h.elim
def sp44 : Spec U1 := ⟨false,false,fun H args K => match args with
  | [.sl 1 l,.str x] => FR l ∧ (placeS l ⟨⟨x⟩⟩ < 0 → K (.tup [.int .i64 0,.iface 37 (.int .i64 5)]) H) ∧ (¬ placeS l ⟨⟨x⟩⟩ < 0 → K (.tup [.int .i64 (placeS l ⟨⟨x⟩⟩),.nilI]) H)
  | _ => False⟩
theorem k44of (k80 : SpecOk R1.T S1 80 spPlace) : SpecOk R1.T S1 44 sp44 := by
  intro H args K h; unfold sp44 at h; dsimp only at h; split at h
  · rename_i l x
    obtain ⟨hF,h1,h2⟩ := h
    refine st (addC_ok k80 (addC_ok (k48of k80) C0_ok)) (by kernel_rfl : R1.T.fn 44 = some ⟨18,Try.f44.body.getD .skip,[.tmp 4,.tmp 5]⟩) rfl rfl ?_
    (((repeat' ((conv => whnf); all_goals first | assumption | with_reducible exact True.intro | with_reducible apply And.intro | (intro q; first | (exfalso; exact Bool.noConfusion q) | (exfalso; with_reducible exact q rfl) | subst q | (replace q : false = false := q; clear q) | (replace q : true = true := q; clear q) | (revert q; intro)) | ((with_reducible show _ = _); exact rfl))); all_goals try (conv => whnf); all_goals simp only [eq_self,true_iff,Bool.false_eq_true,false_iff,ed_eta,fl_eta,pt_eta,B_mk,Int.toNat_natCast] at *; all_goals (try contradiction); all_goals try (refine Chk.mk ?_; omega)))
    · exact h1 (by assumption)
    · exact h2 (by assumption)
  · exact h.elim
end Go.Sx
