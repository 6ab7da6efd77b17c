/-
  SX: the difference of workspaces, by the program.
-/
import Derived.Test.YtelpkdjibjddlaaEvSm4
import Derived.Test.YtelpkdjibjddlaaEvSmD
namespace Go.Sx
open Go Go.Ev Go.RowKit Go.Proofs
set_option maxRecDepth 100000
set_option maxHeartbeats 4000000
theorem mm_lt {n a b : Int} : n < mm false a b ↔ n < a ∧ n < b := by
  show n < (if b < a then b else a) ↔ _
  split <;> omega
theorem back_ix {m n : Nat} (h : m ≤ 1000000) (hn : n ≤ m) : wr .i64 (wr .i64 ((m : Int) - 1) - n) = (m : Int) - 1 - n := by
  rw [wr64 (x := (m : Int) - 1) (by omega),wr64 (by omega)]
def sp92 : Spec U1 := ⟨false,false,fun H args K => match args with
  | [.str x,.str y] => Chk (x.length ≤ 1000000) ∧ K (.int .i64 (comL x y)) H
  | _ => False⟩
theorem k92 : SpecOk R1.T S1 92 sp92 := by
  intro H args K h; unfold sp92 at h; dsimp only at h; split at h
  · rename_i x y
    obtain ⟨hx,h1⟩ := h
    replace hx := hx.out
    refine st C0_ok (by kernel_rfl : R1.T.fn 92 = some ⟨25,Try.f92.body.getD .skip,[.tmp 4]⟩) rfl rfl ?_
    (((repeat' ((conv => whnf); all_goals first | assumption | with_reducible exact True.intro | with_reducible apply And.intro | (intro q; first | (exfalso; exact Bool.noConfusion q) | (exfalso; with_reducible exact q rfl) | subst q | (replace q : false = false := q; clear q) | (replace q : true = true := q; clear q) | (revert q; intro)) | ((with_reducible show _ = _); exact rfl))); all_goals try (conv => whnf); all_goals simp only [eq_self,true_iff,Bool.false_eq_true,false_iff,ed_eta,fl_eta,pt_eta,B_mk,Int.toNat_natCast] at *; all_goals (try contradiction); all_goals try (refine Chk.mk ?_; omega)))
    refine ⟨Nat,fun n => ([(0,.str x),(1,.str y),(5,.int .i64 n)],[]),fun n => n ≤ x.length ∧ n ≤ y.length ∧ SameTo x y n,fun n => x.length - n,0,⟨Nat.zero_le _,Nat.zero_le _,SameTo.zero⟩,?_,?_⟩
    · (repeat' ((conv => whnf); all_goals first | assumption | with_reducible exact True.intro | with_reducible apply And.intro | ((with_reducible show _ = _); exact rfl) | omega | trivial))
    · intro n ⟨hn1,hn2,hS⟩
      have fin : (∀ a b,x[n]? = some a → y[n]? = some b → ¬ a = b) → K (.int .i64 n) H := fun hne => by rw [com_at hS hne] at h1; exact h1
      (((repeat' ((conv => whnf); all_goals first | assumption | with_reducible exact True.intro | with_reducible apply And.intro | (intro q; first | (exfalso; exact Bool.noConfusion q) | (exfalso; with_reducible exact q rfl) | subst q | (replace q : false = false := q; clear q) | (replace q : true = true := q; clear q) | (revert q; intro)) | ((with_reducible show _ = _); exact rfl))); all_goals try (conv => whnf); all_goals simp only [eq_self,true_iff,Bool.false_eq_true,false_iff,ed_eta,fl_eta,pt_eta,B_mk,Int.toNat_natCast] at *; all_goals (try contradiction); all_goals try (refine Chk.mk ?_; omega)))
      · exact Chk.mk ⟨by omega,(mm_lt.1 (by assumption)).1⟩
      · exact Chk.mk ⟨by omega,(mm_lt.1 (by assumption)).2⟩
      · rename_i a ha b hb hw hlt he
        have hlt := mm_lt.1 hlt
        refine ⟨n + 1,by omega,⟨by omega,by omega,hS.step ha hb (byte_inj he)⟩,?_⟩
        rw [hw (by omega)]
        (repeat' ((conv => whnf); all_goals first | assumption | with_reducible exact True.intro | with_reducible apply And.intro | ((with_reducible show _ = _); exact rfl) | omega | trivial))
      · rename_i a ha b hb hlt he
        exact fin fun a' b' ha' hb' => by
          rw [ha] at ha'; rw [hb] at hb'
          cases ha'; cases hb'
          exact byte_ne he
      · rename_i hlt
        exact fin fun a b ha hb => absurd (mm_lt.2 ⟨by have := (List.getElem?_eq_some_iff.1 ha).1; omega,by have := (List.getElem?_eq_some_iff.1 hb).1; omega⟩) hlt
  · exact h.elim
def sp93 : Spec U1 := ⟨false,false,fun H args K => match args with
  | [.str x,.str y] => Chk (x.length ≤ 1000000) ∧ Chk (y.length ≤ 1000000) ∧ K (.int .i64 (lastL x y)) H
  | _ => False⟩
theorem k93 : SpecOk R1.T S1 93 sp93 := by
  intro H args K h; unfold sp93 at h; dsimp only at h; split at h
  · rename_i x y
    obtain ⟨hx,hy,h1⟩ := h
    replace hx := hx.out
    replace hy := hy.out
    refine st C0_ok (by kernel_rfl : R1.T.fn 93 = some ⟨33,Try.f93.body.getD .skip,[.tmp 4]⟩) rfl rfl ?_
    (((repeat' ((conv => whnf); all_goals first | assumption | with_reducible exact True.intro | with_reducible apply And.intro | (intro q; first | (exfalso; exact Bool.noConfusion q) | (exfalso; with_reducible exact q rfl) | subst q | (replace q : false = false := q; clear q) | (replace q : true = true := q; clear q) | (revert q; intro)) | ((with_reducible show _ = _); exact rfl))); all_goals try (conv => whnf); all_goals simp only [eq_self,true_iff,Bool.false_eq_true,false_iff,ed_eta,fl_eta,pt_eta,B_mk,Int.toNat_natCast] at *; all_goals (try contradiction); all_goals try (refine Chk.mk ?_; omega)))
    refine ⟨Nat,fun n => ([(0,.str x),(1,.str y),(5,.int .i64 n)],[]),fun n => n ≤ x.length ∧ n ≤ y.length ∧ SameTo x.reverse y.reverse n,fun n => x.length - n,0,⟨Nat.zero_le _,Nat.zero_le _,SameTo.zero⟩,?_,?_⟩
    · (repeat' ((conv => whnf); all_goals first | assumption | with_reducible exact True.intro | with_reducible apply And.intro | ((with_reducible show _ = _); exact rfl) | omega | trivial))
    · intro n ⟨hn1,hn2,hS⟩
      have fin : (∀ a b,x.reverse[n]? = some a → y.reverse[n]? = some b → ¬ a = b) → K (.int .i64 n) H := fun hne => by unfold lastL at h1; rw [com_at hS hne] at h1; exact h1
      (((repeat' ((conv => whnf); all_goals first | assumption | with_reducible exact True.intro | with_reducible apply And.intro | (intro q; first | (exfalso; exact Bool.noConfusion q) | (exfalso; with_reducible exact q rfl) | subst q | (replace q : false = false := q; clear q) | (replace q : true = true := q; clear q) | (revert q; intro)) | ((with_reducible show _ = _); exact rfl))); all_goals try (conv => whnf); all_goals simp only [eq_self,true_iff,Bool.false_eq_true,false_iff,ed_eta,fl_eta,pt_eta,B_mk,Int.toNat_natCast] at *; all_goals (try contradiction); all_goals try (refine Chk.mk ?_; omega)))
      all_goals try simp only [show wr .i64 (wr .i64 ((x.length : Int) - 1) - n) = (x.length : Int) - 1 - n from back_ix hx hn1,show wr .i64 (wr .i64 ((y.length : Int) - 1) - n) = (y.length : Int) - 1 - n from back_ix hy hn2] at *
      · have hlt := mm_lt.1 (by assumption : (n : Int) < mm false x.length y.length)
        exact Chk.mk (by omega)
      · have hlt := mm_lt.1 (by assumption : (n : Int) < mm false x.length y.length)
        exact Chk.mk (by omega)
      · rename_i _ a _ b hw hlt he _ ha _ hb
        have hlt := mm_lt.1 hlt
        refine ⟨n + 1,by omega,⟨by omega,by omega,hS.step (rev_at ha (by omega)) (rev_at hb (by omega)) (byte_inj he)⟩,?_⟩
        rw [hw (by omega)]
        (repeat' ((conv => whnf); all_goals first | assumption | with_reducible exact True.intro | with_reducible apply And.intro | ((with_reducible show _ = _); exact rfl) | omega | trivial))
      · rename_i _ a _ b hlt he _ ha _ hb
        have hlt := mm_lt.1 hlt
        exact fin fun a' b' ha' hb' => by
          rw [rev_at ha (by omega)] at ha'; rw [rev_at hb (by omega)] at hb'
          cases ha'; cases hb'
          exact byte_ne he
      · rename_i hlt
        exact fin fun a b ha hb => absurd (mm_lt.2 ⟨by have := (List.getElem?_eq_some_iff.1 ha).1; rw [List.length_reverse] at this; omega,by have := (List.getElem?_eq_some_iff.1 hb).1; rw [List.length_reverse] at this; omega⟩) hlt
  · exact h.elim
def sp79 : Spec U1 := ⟨false,false,fun H args K => match args with
  | [.str x,.str y] => Chk (x.length ≤ 1000000) ∧ Chk (y.length ≤ 1000000) ∧ K (.agg [.int .i64 (diffE ⟨⟨x⟩⟩ ⟨⟨y⟩⟩).lo,.int .i64 (diffE ⟨⟨x⟩⟩ ⟨⟨y⟩⟩).hi,.str (B (diffE ⟨⟨x⟩⟩ ⟨⟨y⟩⟩).tx)]) H
  | _ => False⟩
theorem k79 : SpecOk R1.T S1 79 sp79 := by
  intro H args K h; unfold sp79 at h; dsimp only at h; split at h
  · rename_i x y
    obtain ⟨hx,hy,h1⟩ := h
    replace hx := hx.out
    replace hy := hy.out
    refine st (addC_ok k92 (addC_ok k93 C0_ok)) (by kernel_rfl : R1.T.fn 79 = some ⟨30,Try.f79.body.getD .skip,[.cell 4 97]⟩) rfl rfl ?_
    have hc := com_le x y
    have hk := lastL_le (x.drop (comL x y)) (y.drop (comL x y))
    simp only [List.length_drop] at hk
    have w1 : wr .i64 ((x.length : Int) - (lastL (x.drop (comL x y)) (y.drop (comL x y)) : Nat)) = ((x.length - lastL (x.drop (comL x y)) (y.drop (comL x y)) : Nat) : Int) := by rw [wr64 (by omega)]; omega
    have w2 : wr .i64 ((y.length : Int) - (lastL (x.drop (comL x y)) (y.drop (comL x y)) : Nat)) = ((y.length - lastL (x.drop (comL x y)) (y.drop (comL x y)) : Nat) : Int) := by rw [wr64 (by omega)]; omega
    (((repeat' ((conv => whnf); all_goals first | assumption | with_reducible exact True.intro | with_reducible apply And.intro | (intro q; first | (exfalso; exact Bool.noConfusion q) | (exfalso; with_reducible exact q rfl) | subst q | (replace q : false = false := q; clear q) | (replace q : true = true := q; clear q) | (revert q; intro)) | ((with_reducible show _ = _); exact rfl))); all_goals try (conv => whnf); all_goals simp only [eq_self,true_iff,Bool.false_eq_true,false_iff,ed_eta,fl_eta,pt_eta,B_mk,Int.toNat_natCast] at *; all_goals (try contradiction); all_goals try (refine Chk.mk ?_; omega)))
    all_goals try (refine Chk.mk ?_; first | omega | (simp only [List.length_drop]; omega))
    rw [w1,w2,Int.toNat_natCast]; exact h1
  · exact h.elim
end Go.Sx

/-
  SX: the difference of workspaces, by the program: the walk.
-/
namespace Go.Sx
open Go Go.Ev Go.RowKit Go.Proofs
set_option maxRecDepth 100000
set_option maxHeartbeats 4000000
def sp77 : Spec U1 := ⟨false,false,fun H args K => match args with
  | [.agg [.str a,.str _],.agg [.str c,.str _]] => ∀ q,(q = true ↔ a = c) → K (.bool q) H
  | _ => False⟩
theorem k77 : SpecOk R1.T S1 77 sp77 := by
  intro H args K h; unfold sp77 at h; dsimp only at h; split at h
  · refine st C0_ok (by kernel_rfl : R1.T.fn 77 = some ⟨10,Try.f77.body.getD .skip,[.tmp 4]⟩) rfl rfl ?_
    (repeat' ((conv => whnf); all_goals first | assumption | with_reducible exact True.intro | with_reducible apply And.intro | (intro q; first | (exfalso; exact Bool.noConfusion q) | (exfalso; with_reducible exact q rfl) | subst q | (revert q; intro)) | ((with_reducible show _ = _); exact rfl)))
    all_goals exact h _ (by assumption)
  · exact h.elim
def NamedTo (a b : List Fl) (i : Nat) : Prop := i ≤ a.length ∧ a.length = b.length ∧ ∀ (k : Nat) (f g : Fl),k < i → a[k]? = some f → b[k]? = some g → B f.nm = B g.nm
theorem NamedTo.step {a b : List Fl} {i : Nat} {f g : Fl} (h : NamedTo a b i) (hf : a[i]? = some f) (hg : b[i]? = some g) (e : B f.nm = B g.nm) : NamedTo a b (i + 1) := ⟨by have := (List.getElem?_eq_some_iff.1 hf).1; omega,h.2.1,fun k f' g' hk hf' hg' => by
  by_cases hki : k = i
  · subst hki; rw [hf] at hf'; rw [hg] at hg'; cases hf'; cases hg'; exact e
  · exact h.2.2 k f' g' (by omega) hf' hg'⟩
def sp78 : Spec U1 := ⟨false,false,fun H args K => match args with
  | [.sl 1 a,.sl 1 b,.func 77 [] []] => ∀ q,(q = true ↔ Named a b) → K (.bool q) H
  | _ => False⟩
theorem k78 : SpecOk R1.T S1 78 sp78 := by
  intro H args K h; unfold sp78 at h; dsimp only at h; split at h
  · rename_i a b
    refine st (addC_ok k77 C0_ok) (by kernel_rfl : R1.T.fn 78 = some ⟨32,Try.f78.body.getD .skip,[.tmp 6]⟩) rfl rfl ?_
    (((repeat' ((conv => whnf); all_goals first | assumption | with_reducible exact True.intro | with_reducible apply And.intro | (intro q; first | (exfalso; exact Bool.noConfusion q) | (exfalso; with_reducible exact q rfl) | subst q | (replace q : false = false := q; clear q) | (replace q : true = true := q; clear q) | (revert q; intro)) | ((with_reducible show _ = _); exact rfl))); all_goals try (conv => whnf); all_goals simp only [eq_self,true_iff,Bool.false_eq_true,false_iff,ed_eta,fl_eta,pt_eta,B_mk,Int.toNat_natCast] at *; all_goals (try contradiction); all_goals try (refine Chk.mk ?_; omega)))
    · exact h false ⟨nofun,fun hN => absurd (congrArg (fun n : Nat => (n : Int)) hN.1) (by assumption)⟩
    · refine ⟨Nat,fun i => ([(0,.sl 1 a),(1,.sl 1 b),(2,.func 77 [] []),(15,.sl 1 a),(16,.int .i64 a.length),(17,.int .i64 i)],[]),fun i => NamedTo a b i,fun i => a.length - i,0,⟨Nat.zero_le _,by omega,fun k f g hk => absurd hk (Nat.not_lt_zero k)⟩,?_,?_⟩
      · (repeat' ((conv => whnf); all_goals first | assumption | with_reducible exact True.intro | with_reducible apply And.intro | ((with_reducible show _ = _); exact rfl) | omega | trivial))
      · intro i hN
        have hi := hN.1
        have hl := hN.2.1
        (((repeat' ((conv => whnf); all_goals first | assumption | with_reducible exact True.intro | with_reducible apply And.intro | (intro q; first | (exfalso; exact Bool.noConfusion q) | (exfalso; with_reducible exact q rfl) | subst q | (replace q : false = false := q; clear q) | (replace q : true = true := q; clear q) | (revert q; intro)) | ((with_reducible show _ = _); exact rfl))); all_goals try (conv => whnf); all_goals simp only [eq_self,true_iff,Bool.false_eq_true,false_iff,ed_eta,fl_eta,pt_eta,B_mk,Int.toNat_natCast] at *; all_goals (try contradiction); all_goals try (refine Chk.mk ?_; omega)))
        · rename_i f hf g hg hw _ he
          rw [hw (by omega)]
          exact ⟨i + 1,by omega,hN.step hf hg he,by (repeat' ((conv => whnf); all_goals first | assumption | with_reducible exact True.intro | with_reducible apply And.intro | ((with_reducible show _ = _); exact rfl) | omega | trivial))⟩
        · rename_i f hf g hg _ he
          exact h false ⟨nofun,fun hM => absurd (hM.2 i f g hf hg) he⟩
        · exact h true ⟨fun _ => ⟨hl,fun k f g hf hg => hN.2.2 k f g (by have := (List.getElem?_eq_some_iff.1 hf).1; omega) hf hg⟩,fun _ => rfl⟩
  · exact h.elim
def sp41 : Spec U1 := ⟨false,false,fun H args K => match args with
  | [.sl 1 a,.sl 1 b] => Chk (FR a) ∧ Chk (FR b) ∧ Chk (Named a b) ∧ (diffP a b = [] → K (.tup [.nilS,.nilI]) H) ∧ (¬ diffP a b = [] → K (.tup [.sl 4 (diffP a b),.nilI]) H)
  | _ => False⟩
def fr41 (a b : List Fl) (y : Nat × List Pt) : Frm U1 × Hp U1 := match y.2 with
  | [] => ([(0,.sl 1 a),(1,.sl 1 b),(7,.nilS),(25,.sl 1 a),(26,.int .i64 a.length),(27,.int .i64 y.1)],[])
  | p :: o => ([(0,.sl 1 a),(1,.sl 1 b),(7,.ol 0),(25,.sl 1 a),(26,.int .i64 a.length),(27,.int .i64 y.1)],[.list false false 119 4 (p :: o)])
theorem k41 : SpecOk R1.T S1 41 sp41 := by
  intro H args K h; unfold sp41 at h; dsimp only at h; split at h
  · rename_i a b
    obtain ⟨hA,hB,hN,h1,h2⟩ := h
    replace hA := hA.out
    replace hB := hB.out
    replace hN := hN.out
    refine st (addC_ok k48 (addC_ok k78 (addC_ok k79 C0_ok))) (by kernel_rfl : R1.T.fn 41 = some ⟨55,Try.f41.body.getD .skip,[.tmp 4,.tmp 5]⟩) rfl rfl ?_
    (((repeat' ((conv => whnf); all_goals first | assumption | with_reducible exact True.intro | with_reducible apply And.intro | (intro q; first | (exfalso; exact Bool.noConfusion q) | (exfalso; with_reducible exact q rfl) | subst q | (replace q : false = false := q; clear q) | (replace q : true = true := q; clear q) | (revert q; intro)) | ((with_reducible show _ = _); exact rfl))); all_goals try (conv => whnf); all_goals simp only [eq_self,true_iff,Bool.false_eq_true,false_iff,ed_eta,fl_eta,pt_eta,B_mk,Int.toNat_natCast] at *; all_goals (try contradiction); all_goals try (refine Chk.mk ?_; omega)))
    refine ⟨Nat × List Pt,fr41 a b,fun y => y.1 ≤ a.length ∧ y.2 = diffL ((a.zip b).take y.1),fun y => a.length - y.1,(0,[]),⟨Nat.zero_le _,rfl⟩,?_,?_⟩
    · (repeat' ((conv => whnf); all_goals first | assumption | with_reducible exact True.intro | with_reducible apply And.intro | ((with_reducible show _ = _); exact rfl) | omega | trivial))
    · intro ⟨i,o⟩ ⟨hi,ho⟩
      dsimp only at hi ho
      have hl8 := hA.2.1
      have hab : a.length = b.length := hN.1
      have hol : o.length ≤ i := by rw [ho]; exact Nat.le_trans (diffL_len _) (List.length_take_le _ _)
      have hta : ∀ f : Fl,a[i]? = some f → (B f.tx).length ≤ 1000000 := fun f hf => by have := (hA.2.2 i f hf).2.1; omega
      have htb : ∀ f : Fl,b[i]? = some f → (B f.tx).length ≤ 1000000 := fun f hf => by have := (hB.2.2 i f hf).2.1; omega
      have stepF : ∀ f g : Fl,a[i]? = some f → b[i]? = some g → (B f.nm = B g.nm ∧ B f.tx = B g.tx ∧ True) → o = diffL ((a.zip b).take (i + 1)) := fun f g hf hg e => by
        rw [diffL_F (p := (f,g)) (List.getElem?_zip_eq_some.2 ⟨hf,hg⟩) (fun hu => hu ⟨e.1,e.2.1⟩)]; exact ho
      have stepT : ∀ f g : Fl,a[i]? = some f → b[i]? = some g → ¬ (B f.nm = B g.nm ∧ B f.tx = B g.tx ∧ True) → o ++ [⟨f.nm,[diffE f.tx g.tx]⟩] = diffL ((a.zip b).take (i + 1)) := fun f g hf hg e => by
        rw [diffL_T (p := (f,g)) (List.getElem?_zip_eq_some.2 ⟨hf,hg⟩) (fun hu => e ⟨hu.1,hu.2,trivial⟩),ho]; rfl
      have endE : ¬ (i : Int) < a.length → diffP a b = o := fun hl => by
        rw [ho,List.take_of_length_le (by rw [List.length_zip]; omega)]; rfl
      rcases o with _ | ⟨p,o⟩
      · (((repeat' ((conv => whnf); all_goals first | assumption | with_reducible exact True.intro | with_reducible apply And.intro | (intro q; first | (exfalso; exact Bool.noConfusion q) | (exfalso; with_reducible exact q rfl) | subst q | (replace q : false = false := q; clear q) | (replace q : true = true := q; clear q) | (revert q; intro)) | ((with_reducible show _ = _); exact rfl))); all_goals try (conv => whnf); all_goals simp only [eq_self,true_iff,Bool.false_eq_true,false_iff,ed_eta,fl_eta,pt_eta,B_mk,Int.toNat_natCast] at *; all_goals (try contradiction); all_goals try (refine Chk.mk ?_; omega)))
        · rename_i f hf g hg hw _ he
          rw [hw (by omega)]
          exact ⟨(i + 1,[]),by simp only; omega,⟨by simp only; omega,stepF f g hf hg he⟩,by (repeat' ((conv => whnf); all_goals first | assumption | with_reducible exact True.intro | with_reducible apply And.intro | ((with_reducible show _ = _); exact rfl) | omega | trivial))⟩
        · exact Chk.mk (hta _ (by assumption))
        · exact Chk.mk (htb _ (by assumption))
        · exact Chk.mk (show (0 + 1) * 40 ≤ 140737488355328 by decide)
        · rename_i f hf g hg g' hg' hw _ he
          obtain rfl := same_at hg hg' rfl
          rw [hw (by omega)]
          exact ⟨(i + 1,[⟨f.nm,[diffE f.tx g.tx]⟩]),by simp only; omega,⟨by simp only; omega,stepT f g hf hg he⟩,by (repeat' ((conv => whnf); all_goals first | assumption | with_reducible exact True.intro | with_reducible apply And.intro | ((with_reducible show _ = _); exact rfl) | omega | trivial))⟩
        · exact h1 (endE (by assumption))
      · (((repeat' ((conv => whnf); all_goals first | assumption | with_reducible exact True.intro | with_reducible apply And.intro | (intro q; first | (exfalso; exact Bool.noConfusion q) | (exfalso; with_reducible exact q rfl) | subst q | (replace q : false = false := q; clear q) | (replace q : true = true := q; clear q) | (revert q; intro)) | ((with_reducible show _ = _); exact rfl))); all_goals try (conv => whnf); all_goals simp only [eq_self,true_iff,Bool.false_eq_true,false_iff,ed_eta,fl_eta,pt_eta,B_mk,Int.toNat_natCast] at *; all_goals (try contradiction); all_goals try (refine Chk.mk ?_; omega)))
        · rename_i f hf g hg hw _ he
          rw [hw (by omega)]
          exact ⟨(i + 1,p :: o),by simp only; omega,⟨by simp only; omega,stepF f g hf hg he⟩,by (repeat' ((conv => whnf); all_goals first | assumption | with_reducible exact True.intro | with_reducible apply And.intro | ((with_reducible show _ = _); exact rfl) | omega | trivial))⟩
        · exact Chk.mk (hta _ (by assumption))
        · exact Chk.mk (htb _ (by assumption))
        · exact Chk.mk (show ((p :: o).length + 1) * 40 ≤ 140737488355328 by omega)
        · rename_i f hf g hg g' hg' hw _ he
          obtain rfl := same_at hg hg' rfl
          rw [hw (by omega)]
          exact ⟨(i + 1,p :: o ++ [⟨f.nm,[diffE f.tx g.tx]⟩]),by simp only; omega,⟨by simp only; omega,stepT f g hf hg he⟩,by (repeat' ((conv => whnf); all_goals first | assumption | with_reducible exact True.intro | with_reducible apply And.intro | ((with_reducible show _ = _); exact rfl) | omega | trivial))⟩
        · have e := endE (by assumption)
          rw [e] at h2
          exact h2 nofun
  · exact h.elim
end Go.Sx
