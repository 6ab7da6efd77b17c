/-
  SX: where bytes go: runs, Came, Grow, Spans, Kept, the text of a source.
-/
import Derived.Test.YtelpkdjibjddlaaEvJ6
set_option linter.unusedSimpArgs false
set_option linter.unusedVariables false
namespace Go.Sx
open Go Go.Ev Go.RowKit Go.Proofs
set_option maxRecDepth 100000
set_option maxHeartbeats 4000000
def sp65 : Spec U1 := ⟨false,false,fun H args K => match args with
  | [.sl 0 l,.int .i64 n] => Chk (l.length ≤ 1000) ∧ K (.sl 2 (runsS l n)) H
  | _ => False⟩
theorem k65 : SpecOk R1.T S1 65 sp65 := by
  intro H args K h; unfold sp65 at h; dsimp only at h; split at h
  · rename_i l n
    obtain ⟨hl,h⟩ := h
    replace hl := hl.out
    refine st C0_ok (by kernel_rfl : R1.T.fn 65 = some ⟨45,Try.f65.body.getD .skip,[.tmp 4]⟩) rfl rfl ?_
    (((repeat' ((conv => whnf); all_goals first | assumption | with_reducible exact True.intro | with_reducible apply And.intro | (intro q; first | (exfalso; exact Bool.noConfusion q) | (exfalso; with_reducible exact q rfl) | subst q | (replace q : false = false := q; clear q) | (replace q : true = true := q; clear q) | (revert q; intro)) | ((with_reducible show _ = _); exact rfl))); all_goals try (conv => whnf); all_goals simp only [eq_self,true_iff,Bool.false_eq_true,false_iff,ed_eta,fl_eta,pt_eta,B_mk,Int.toNat_natCast] at *; all_goals (try contradiction); all_goals try (refine Chk.mk ?_; omega)))
    refine ⟨Nat,fun i => ([(0,.sl 0 l),(1,.int .i64 n),(10,.sl 0 l),(11,.int .i64 l.length),(12,.int .i64 i),(5,.ol 0),(6,.int .i64 (runF (l.take i)).2.1),(7,.int .i64 (runF (l.take i)).2.2)],[.list false false 101 2 (runF (l.take i)).1]),fun i => i ≤ l.length,fun i => l.length - i,0,Nat.zero_le _,?_,?_⟩
    · (repeat' ((conv => whnf); all_goals first | assumption | with_reducible exact True.intro | with_reducible apply And.intro | ((with_reducible show _ = _); exact rfl) | omega | trivial))
    · intro i hi
      have hrl := runF_len' hi
      (((repeat' ((conv => whnf); all_goals first | assumption | with_reducible exact True.intro | with_reducible apply And.intro | (intro q; first | (exfalso; exact Bool.noConfusion q) | (exfalso; with_reducible exact q rfl) | subst q | (replace q : false = false := q; clear q) | (replace q : true = true := q; clear q) | (revert q; intro)) | ((with_reducible show _ = _); exact rfl))); all_goals try (conv => whnf); all_goals simp only [eq_self,true_iff,Bool.false_eq_true,false_iff,ed_eta,fl_eta,pt_eta,B_mk,Int.toNat_natCast] at *; all_goals (try contradiction); all_goals try (refine Chk.mk ?_; omega)))
      · exact Chk.mk (Nat.le_trans (Nat.mul_le_mul_right 24 (Nat.succ_le_succ (Nat.le_of_eq hrl))) (by clear h; omega))
      · rename_i e he _ _ _ hw _
        rw [hw (by omega)]
        refine ⟨i + 1,by omega,by omega,?_⟩
        rw [runF_step he]
        (repeat' ((conv => whnf); all_goals first | assumption | with_reducible exact True.intro | with_reducible apply And.intro | ((with_reducible show _ = _); exact rfl) | omega | trivial))
      · exact Chk.mk (Nat.le_trans (Nat.mul_le_mul_right 24 (Nat.succ_le_succ (Nat.le_of_eq hrl))) (by clear h; omega))
      · have : i = l.length := by omega
        subst this
        rw [List.take_length] at *
        exact h
  · exact h.elim
def sp18 : Spec U1 := ⟨false,false,fun H args K => match args with
  | [.sl 0 l,.int .i64 n,.int .i64 q] => Chk (l.length ≤ 1000) ∧ Chk (Right l n) ∧ ((caS l n q).2 = 0 → K (.tup [.int .i64 (caS l n q).1,.nilI]) H) ∧ (¬ (caS l n q).2 = 0 → K (.tup [.int .i64 (caS l n q).1,.iface 37 (.int .i64 (caS l n q).2)]) H)
  | _ => False⟩
theorem k18 : SpecOk R1.T S1 18 sp18 := by
  intro H args K h; unfold sp18 at h; dsimp only at h; split at h
  · rename_i l n q
    obtain ⟨hl,hR,h1,h2⟩ := h
    replace hl := hl.out
    replace hR := hR.out
    refine st (addC_ok j35 (addC_ok k65 C0_ok)) (by kernel_rfl : R1.T.fn 18 = some ⟨45,Try.f18.body.getD .skip,[.tmp 6,.tmp 7]⟩) rfl rfl ?_
    (((repeat' ((conv => whnf); all_goals first | assumption | with_reducible exact True.intro | with_reducible apply And.intro | (intro q; first | (exfalso; exact Bool.noConfusion q) | (exfalso; with_reducible exact q rfl) | subst q | (replace q : false = false := q; clear q) | (replace q : true = true := q; clear q) | (revert q; intro)) | ((with_reducible show _ = _); exact rfl))); all_goals try (conv => whnf); all_goals simp only [eq_self,true_iff,Bool.false_eq_true,false_iff,ed_eta,fl_eta,pt_eta,B_mk,Int.toNat_natCast] at *; all_goals (try contradiction); all_goals try (refine Chk.mk ?_; omega)))
    refine ⟨Nat,fun i => ([(0,.sl 0 l),(1,.int .i64 n),(2,.int .i64 q),(17,.sl 2 (runsS l n)),(18,.int .i64 (runsS l n).length),(19,.int .i64 i)],[]),fun i => i ≤ (runsS l n).length ∧ NoB (InC q) (runsS l n) i,fun i => (runsS l n).length - i,0,⟨Nat.zero_le _,.zero⟩,?_,?_⟩
    · (repeat' ((conv => whnf); all_goals first | assumption | with_reducible exact True.intro | with_reducible apply And.intro | ((with_reducible show _ = _); exact rfl) | omega | trivial))
    · intro i ⟨hi,ho⟩
      (((repeat' ((conv => whnf); all_goals first | assumption | with_reducible exact True.intro | with_reducible apply And.intro | (intro q; first | (exfalso; exact Bool.noConfusion q) | (exfalso; with_reducible exact q rfl) | subst q | (replace q : false = false := q; clear q) | (replace q : true = true := q; clear q) | (revert q; intro)) | ((with_reducible show _ = _); exact rfl))); all_goals try (conv => whnf); all_goals simp only [eq_self,true_iff,Bool.false_eq_true,false_iff,ed_eta,fl_eta,pt_eta,B_mk,Int.toNat_natCast] at *; all_goals (try contradiction); all_goals try (refine Chk.mk ?_; omega)))
      · rename_i r hr _ _ _ _ h3 h4
        have hc := caS_at ho hr ⟨h3,h4⟩
        rw [hc] at h1
        exact h1 rfl
      · rename_i r hr _ _ hw _ h3 h4
        rw [hw (by omega)]
        refine ⟨i + 1,by omega,⟨by omega,ho.step hr fun hp => h4 hp.2⟩,?_⟩
        (repeat' ((conv => whnf); all_goals first | assumption | with_reducible exact True.intro | with_reducible apply And.intro | ((with_reducible show _ = _); exact rfl) | omega | trivial))
      · rename_i r hr _ hw _ h3
        rw [hw (by omega)]
        refine ⟨i + 1,by omega,⟨by omega,ho.step hr fun hp => h3 hp.1⟩,?_⟩
        (repeat' ((conv => whnf); all_goals first | assumption | with_reducible exact True.intro | with_reducible apply And.intro | ((with_reducible show _ = _); exact rfl) | omega | trivial))
      · have hc := caS_none ho (by omega)
        rw [hc] at h2
        exact h2 (by decide)
  · exact h.elim
def sp21 : Spec U1 := ⟨false,false,fun H args K => match args with
  | [.sl 0 l,.int .i64 n] => Chk (l.length ≤ 1000) ∧ (Right l n → K (.tup [.sl 3 (spansS l),.nilI]) H) ∧ (¬ Right l n → K (.tup [.sl 3 [],.iface 37 (.int .i64 2)]) H)
  | _ => False⟩
theorem k21 : SpecOk R1.T S1 21 sp21 := by
  intro H args K h; unfold sp21 at h; dsimp only at h; split at h
  · rename_i l n
    obtain ⟨hl,h1,h2⟩ := h
    replace hl := hl.out
    refine CallOk.resNil 3 ?_
    refine st (addC_ok j35 C0_ok) (by kernel_rfl : R1.T.fn 21 = some ⟨50,Try.f21.body.getD .skip,[.tmp 4,.tmp 5]⟩) rfl rfl ?_
    (((repeat' ((conv => whnf); all_goals first | assumption | with_reducible exact True.intro | with_reducible apply And.intro | (intro q; first | (exfalso; exact Bool.noConfusion q) | (exfalso; with_reducible exact q rfl) | subst q | (replace q : false = false := q; clear q) | (replace q : true = true := q; clear q) | (revert q; intro)) | ((with_reducible show _ = _); exact rfl))); all_goals try (conv => whnf); all_goals simp only [eq_self,true_iff,Bool.false_eq_true,false_iff,ed_eta,fl_eta,pt_eta,B_mk,Int.toNat_natCast] at *; all_goals (try contradiction); all_goals try (refine Chk.mk ?_; omega)))
    · refine ⟨Nat,fun i => ([(4,.nilS),(5,.nilI),(15,.sl 0 l),(16,.int .i64 l.length),(17,.int .i64 i),(6,.ol 0),(7,.int .i64 (spanF (l.take i)).2)],[.list false false 39 3 (spanF (l.take i)).1]),fun i => i ≤ l.length,fun i => l.length - i,0,Nat.zero_le _,?_,?_⟩
      · (repeat' ((conv => whnf); all_goals first | assumption | with_reducible exact True.intro | with_reducible apply And.intro | ((with_reducible show _ = _); exact rfl) | omega | trivial))
      · intro i hi
        have hrl := spanF_len' hi
        (((repeat' ((conv => whnf); all_goals first | assumption | with_reducible exact True.intro | with_reducible apply And.intro | (intro q; first | (exfalso; exact Bool.noConfusion q) | (exfalso; with_reducible exact q rfl) | subst q | (replace q : false = false := q; clear q) | (replace q : true = true := q; clear q) | (revert q; intro)) | ((with_reducible show _ = _); exact rfl))); all_goals try (conv => whnf); all_goals simp only [eq_self,true_iff,Bool.false_eq_true,false_iff,ed_eta,fl_eta,pt_eta,B_mk,Int.toNat_natCast] at *; all_goals (try contradiction); all_goals try (refine Chk.mk ?_; omega)))
        · exact Chk.mk (Nat.le_trans (Nat.mul_le_mul_right 16 (Nat.succ_le_succ (Nat.le_of_eq hrl))) (by clear h1 h2; omega))
        · rename_i e he _ _ _ _ _ _ hw _
          rw [hw (by omega)]
          refine ⟨i + 1,by omega,by omega,?_⟩
          rw [spanF_step he]
          (repeat' ((conv => whnf); all_goals first | assumption | with_reducible exact True.intro | with_reducible apply And.intro | ((with_reducible show _ = _); exact rfl) | omega | trivial))
        · have : i = l.length := by omega
          subst this
          rw [List.take_length] at *
          exact h1 (by assumption)
    · exact h2 (by assumption)
  · exact h.elim
end Go.Sx

/-
  SX: the text of a source.
-/
namespace Go.Sx
open Go Go.Ev Go.RowKit Go.Proofs
set_option maxRecDepth 100000
set_option maxHeartbeats 4000000
def piece (x y : Int) (e : Ed) (p : Sp) : List UInt8 := if max x p.a < min y p.b then ((B e.tx).drop (max x p.a - p.a).toNat).take ((min y p.b - p.a).toNat - (max x p.a - p.a).toNat) else []
def textF (x y : Int) (l : List Ed) (sp : List Sp) : List UInt8 := (List.zipWith (piece x y) l sp).flatten
theorem textF_step {x y : Int} {l : List Ed} {sp : List Sp} (hl : l.length = sp.length) {i : Nat} {e : Ed} {p : Sp} (he : l[i]? = some e) (hp : sp[i]? = some p) : textF x y (l.take (i + 1)) (sp.take (i + 1)) = textF x y (l.take i) (sp.take i) ++ piece x y e p := by
  unfold textF
  rw [List.take_add_one,he,List.take_add_one,hp,List.zipWith_append (by simp [hl])]
  simp
structure SpanOk (l : List Ed) (sp : List Sp) : Prop where
  len : l.length = sp.length
  le : l.length ≤ 1000
  sum : sumT l ≤ 1000000
  ok : ∀ (i : Nat) (e : Ed) (p : Sp),l[i]? = some e → sp[i]? = some p → p.b = p.a + ((B e.tx).length : Nat) ∧ 0 ≤ p.a ∧ p.b ≤ 2000000
theorem mmT (x a : Int) : mm true x a = max x a := by show (if x < a then a else x) = _; split <;> omega
theorem mmF (x a : Int) : mm false x a = min x a := by show (if a < x then a else x) = _; split <;> omega
theorem piece_len (x y : Int) (e : Ed) (p : Sp) : (piece x y e p).length ≤ (B e.tx).length := by
  unfold piece; split
  · rw [List.length_take,List.length_drop]; omega
  · exact Nat.zero_le _
theorem textF_len {x y : Int} {l : List Ed} {sp : List Sp} (hl : l.length = sp.length) : ∀ {i : Nat},i ≤ l.length → (textF x y (l.take i) (sp.take i)).length ≤ sumT (l.take i)
  | 0,_ => Nat.zero_le _
  | i + 1,h => by
    obtain ⟨e,he⟩ := ex_at (l := l) (i := i) (by omega)
    obtain ⟨p,hp⟩ := ex_at (l := sp) (i := i) (by omega)
    rw [textF_step hl he hp,sumT_step he,List.length_append]
    have := textF_len (x := x) (y := y) hl (i := i) (by omega)
    have := piece_len x y e p
    omega
def sp99 : Spec U1 := ⟨false,false,fun H args K => match args with
  | [.agg [.sl 0 l,.sl 3 sp],.int .i64 x,.int .i64 y] => Chk (SpanOk l sp) ∧ K (.str (textF x y l sp)) H
  | _ => False⟩
theorem k99 : SpecOk R1.T S1 99 sp99 := by
  intro H args K h; unfold sp99 at h; dsimp only at h; split at h
  · rename_i l sp x y
    obtain ⟨hs,h⟩ := h
    replace hs := hs.out
    have hl1 := hs.len
    have hl2 := hs.le
    have hl3 := hs.sum
    refine st C0_ok (by kernel_rfl : R1.T.fn 99 = some ⟨50,Try.f99.body.getD .skip,[.tmp 6]⟩) rfl rfl ?_
    (((repeat' ((conv => whnf); all_goals first | assumption | with_reducible exact True.intro | with_reducible apply And.intro | (intro q; first | (exfalso; exact Bool.noConfusion q) | (exfalso; with_reducible exact q rfl) | subst q | (replace q : false = false := q; clear q) | (replace q : true = true := q; clear q) | (revert q; intro)) | ((with_reducible show _ = _); exact rfl))); all_goals try (conv => whnf); all_goals simp only [eq_self,true_iff,Bool.false_eq_true,false_iff,ed_eta,fl_eta,pt_eta,B_mk,Int.toNat_natCast] at *; all_goals (try contradiction); all_goals try (refine Chk.mk ?_; omega)))
    refine ⟨Nat,fun i => ([(1,.int .i64 x),(2,.int .i64 y),(3,.ptr 0 0),(6,.str []),(7,.str (textF x y (l.take i) (sp.take i))),(13,.sl 3 sp),(14,.int .i64 sp.length),(15,.int .i64 i)],[.cells false 127 [.sl 0 l,.sl 3 sp]]),fun i => i ≤ sp.length,fun i => sp.length - i,0,Nat.zero_le _,?_,?_⟩
    · (repeat' ((conv => whnf); all_goals first | assumption | with_reducible exact True.intro | with_reducible apply And.intro | ((with_reducible show _ = _); exact rfl) | omega | trivial))
    · intro i hi
      have ht := textF_len (x := x) (y := y) hl1 (i := i) (by omega)
      have ht2 := sumT_le l i
      (((repeat' ((conv => whnf); all_goals first | assumption | with_reducible exact True.intro | with_reducible apply And.intro | (intro q; first | (exfalso; exact Bool.noConfusion q) | (exfalso; with_reducible exact q rfl) | subst q | (replace q : false = false := q; clear q) | (replace q : true = true := q; clear q) | (revert q; intro)) | ((with_reducible show _ = _); exact rfl))); all_goals try (conv => whnf); all_goals simp only [eq_self,true_iff,Bool.false_eq_true,false_iff,ed_eta,fl_eta,pt_eta,B_mk,Int.toNat_natCast] at *; all_goals (try contradiction); all_goals try (refine Chk.mk ?_; omega)))
      · rename_i p hp e he h1 h2 _ hlt
        obtain ⟨g1,g2,g3⟩ := hs.ok i e p he hp
        rw [mmT,mmF] at hlt
        rw [mmT] at h1
        rw [mmF] at h2
        refine Chk.mk ?_
        rw [mmT,mmF,h1 (by omega),h2 (by omega)]
        omega
      · rename_i p hp e he _ _ _ _
        have := sumT_get he
        refine Chk.mk ?_
        rw [List.length_take,List.length_drop]
        omega
      · rename_i p hp e he h1 h2 hw _ hlt
        rw [hw (by omega)]
        refine ⟨i + 1,by omega,by omega,?_⟩
        obtain ⟨g1,g2,g3⟩ := hs.ok i e p he hp
        rw [mmT,mmF] at hlt
        rw [mmT] at h1
        rw [mmF] at h2
        rw [textF_step hl1 he hp,show piece x y e p = List.take ((wr IntKind.i64 (mm false y p.b - p.a)).toNat - (wr IntKind.i64 (mm true x p.a - p.a)).toNat) (List.drop (wr IntKind.i64 (mm true x p.a - p.a)).toNat (B e.tx)) from by
          unfold piece; rw [if_pos hlt,mmT,mmF,h1 (by omega),h2 (by omega)]]
        (repeat' ((conv => whnf); all_goals first | assumption | with_reducible exact True.intro | with_reducible apply And.intro | ((with_reducible show _ = _); exact rfl) | omega | trivial))
      · rename_i p hp hw _ hlt
        rw [hw (by omega)]
        obtain ⟨e,he⟩ := ex_at (l := l) (i := i) (by omega)
        rw [mmT,mmF] at hlt
        refine ⟨i + 1,by omega,by omega,?_⟩
        rw [textF_step hl1 he hp,show piece x y e p = [] from if_neg hlt,List.append_nil]
        (repeat' ((conv => whnf); all_goals first | assumption | with_reducible exact True.intro | with_reducible apply And.intro | ((with_reducible show _ = _); exact rfl) | omega | trivial))
      · have : i = sp.length := by omega
        subst this
        show K (.str (textF x y (l.take sp.length) (sp.take sp.length))) H
        rw [List.take_length,← hl1,List.take_length]
        exact h
  · exact h.elim
end Go.Sx

/-
  SX: what stands between two bytes that go by both.
-/
namespace Go.Sx
open Go Go.Ev Go.RowKit Go.Proofs
set_option maxRecDepth 100000
set_option maxHeartbeats 4000000
def gapB (la : List Ed) (sa : List Sp) (lb : List Ed) (sb : List Sp) (n q : Int) : List UInt8 := if (caS lb n q).2 = 0 then textF (caS lb n q).1 ((caS lb n q).1 + 1) la sa else textF q (q + 1) lb sb
def gapN (la : List Ed) (sa : List Sp) (lb : List Ed) (sb : List Sp) (n u : Int) (m : Nat) : List UInt8 := ((List.range m).map fun j : Nat => gapB la sa lb sb n (u + (j : Int))).flatten
theorem gapN_step {la : List Ed} {sa : List Sp} {lb : List Ed} {sb : List Sp} {n u : Int} {m : Nat} : gapN la sa lb sb n u (m + 1) = gapN la sa lb sb n u m ++ gapB la sa lb sb n (u + (m : Int)) := by
  unfold gapN
  rw [List.range_succ,List.map_append]; simp
def gapT (la : List Ed) (sa : List Sp) (lb : List Ed) (sb : List Sp) (n u v : Int) : List UInt8 := gapN la sa lb sb n u (v - u).toNat
theorem gapB_len {la : List Ed} {sa : List Sp} {lb : List Ed} {sb : List Sp} (ha : SpanOk la sa) (hb : SpanOk lb sb) (n q : Int) : (gapB la sa lb sb n q).length ≤ 1000000 := by
  have hA := ha.sum
  have hB := hb.sum
  unfold gapB
  split
  · have := textF_len (x := (caS lb n q).1) (y := (caS lb n q).1 + 1) ha.len (Nat.le_refl _)
    rw [List.take_length,ha.len,List.take_length] at this
    omega
  · have := textF_len (x := q) (y := q + 1) hb.len (Nat.le_refl _)
    rw [List.take_length,hb.len,List.take_length] at this
    omega
theorem gapN_len {la : List Ed} {sa : List Sp} {lb : List Ed} {sb : List Sp} (ha : SpanOk la sa) (hb : SpanOk lb sb) (n u : Int) : ∀ m : Nat,(gapN la sa lb sb n u m).length ≤ m * 1000000
  | 0 => Nat.zero_le _
  | m + 1 => by
    rw [gapN_step,List.length_append]
    have := gapN_len ha hb n u m
    have := gapB_len ha hb n (u + (m : Int))
    omega
theorem gapB_pos {la : List Ed} {sa : List Sp} {lb : List Ed} {sb : List Sp} {n q : Int} (h : (caS lb n q).2 = 0) : gapB la sa lb sb n q = textF (caS lb n q).1 ((caS lb n q).1 + 1) la sa := if_pos h
theorem gapB_neg {la : List Ed} {sa : List Sp} {lb : List Ed} {sb : List Sp} {n q : Int} (h : ¬ (caS lb n q).2 = 0) : gapB la sa lb sb n q = textF q (q + 1) lb sb := if_neg h
structure GapOk (la : List Ed) (sa : List Sp) (lb : List Ed) (sb : List Sp) (n u v : Int) : Prop where
  a : SpanOk la sa
  b : SpanOk lb sb
  R : Right lb n
  u : -1000000 ≤ u
  v : v ≤ 1000000
  c : ∀ q,(caS lb n q).2 = 0 → -1000000 ≤ (caS lb n q).1 ∧ (caS lb n q).1 ≤ 1000000
def gapE (la : List Ed) (sa : List Sp) (lb : List Ed) (sb : List Sp) (n x y u v : Int) : Ed := ⟨x,y,⟨⟨gapT la sa lb sb n u v⟩⟩⟩
abbrev GapIs (la : List Ed) (sa : List Sp) (lb : List Ed) (sb : List Sp) (n x y u v : Int) : Prop := x < y ∨ gapT la sa lb sb n u v ≠ []
def sp86 : Spec U1 := ⟨true,false,fun H args K => match H,args with
  | [.cells false 129 [.sl 0 la,.sl 3 sa,.sl 0 lb,.sl 3 sb,.int .i64 n,.nilS]],[.ptr 0 0,.int .i64 x,.int .i64 y,.int .i64 u,.int .i64 v] =>
    Chk (GapOk la sa lb sb n u v) ∧ (GapIs la sa lb sb n x y u v → K (.tup []) [.cells false 129 [.sl 0 la,.sl 3 sa,.sl 0 lb,.sl 3 sb,.int .i64 n,.ol 1],.list false false 97 0 [gapE la sa lb sb n x y u v]]) ∧
      (¬ GapIs la sa lb sb n x y u v → K (.tup []) [.cells false 129 [.sl 0 la,.sl 3 sa,.sl 0 lb,.sl 3 sb,.int .i64 n,.nilS]])
  | [.cells false 129 [.sl 0 la,.sl 3 sa,.sl 0 lb,.sl 3 sb,.int .i64 n,.ol 1],.list false false 97 0 out],[.ptr 0 0,.int .i64 x,.int .i64 y,.int .i64 u,.int .i64 v] =>
    Chk (GapOk la sa lb sb n u v) ∧ Chk (out.length ≤ 1000000) ∧ (GapIs la sa lb sb n x y u v → K (.tup []) [.cells false 129 [.sl 0 la,.sl 3 sa,.sl 0 lb,.sl 3 sb,.int .i64 n,.ol 2],.dead,.list false false 97 0 (out ++ [gapE la sa lb sb n x y u v])]) ∧
      (¬ GapIs la sa lb sb n x y u v → K (.tup []) [.cells false 129 [.sl 0 la,.sl 3 sa,.sl 0 lb,.sl 3 sb,.int .i64 n,.ol 1],.list false false 97 0 out])
  | _,_ => False⟩
abbrev C86 := addC 18 sp18 (addC 99 sp99 C0)
theorem C86_ok : COk C86 := addC_ok k18 (addC_ok k99 C0_ok)
theorem k86 : SpecOk R1.T S1 86 sp86 := by
  intro H args K h; unfold sp86 at h; dsimp only at h; split at h
  · rename_i la sa lb sb n x y u v
    obtain ⟨hg,h1,h2⟩ := h
    replace hg := hg.out
    have hu := hg.u
    have hv := hg.v
    have ha := hg.a
    have hb := hg.b
    have hR := hg.R
    have hbl := hb.le
    refine CallOk.of_wpO (p := ⟨S1,C86,76,1,fun _ => none⟩) (par_ok C86_ok _ _) (by kernel_rfl : R1.T.fn 86 = some ⟨76,Try.f86.body.getD .skip,[]⟩) rfl (Nat.le_of_ble_eq_true rfl) ?_ (fun h => by cases h)
    (((repeat' ((conv => whnf); all_goals first | assumption | with_reducible exact True.intro | with_reducible apply And.intro | (intro q; first | (exfalso; exact Bool.noConfusion q) | (exfalso; with_reducible exact q rfl) | subst q | (replace q : false = false := q; clear q) | (replace q : true = true := q; clear q) | (revert q; intro)) | ((with_reducible show _ = _); exact rfl))); all_goals try (conv => whnf); all_goals simp only [eq_self,true_iff,Bool.false_eq_true,false_iff,ed_eta,fl_eta,pt_eta,B_mk,Int.toNat_natCast] at *; all_goals (try contradiction); all_goals try (refine Chk.mk ?_; omega)))
    refine ⟨Nat,fun i => ([(0,.ptr 0 0),(1,.int .i64 x),(2,.int .i64 y),(4,.int .i64 v),(10,.str (gapN la sa lb sb n u i)),(11,.int .i64 (u + (i : Int)))],[.cells false 129 [.sl 0 la,.sl 3 sa,.sl 0 lb,.sl 3 sb,.int .i64 n,.nilS]]),fun i => i ≤ (v - u).toNat,fun i => (v - u).toNat - i,0,Nat.zero_le _,?_,?_⟩
    · (repeat' ((conv => whnf); all_goals first | assumption | with_reducible exact True.intro | with_reducible apply And.intro | ((with_reducible show _ = _); exact rfl) | omega | trivial))
    · intro i hi
      have hlen := gapN_len ha hb n u i
      have hlen1 := gapB_len ha hb n (u + (i : Int))
      (((repeat' ((conv => whnf); all_goals first | assumption | with_reducible exact True.intro | with_reducible apply And.intro | (intro q; first | (exfalso; exact Bool.noConfusion q) | (exfalso; with_reducible exact q rfl) | subst q | (replace q : false = false := q; clear q) | (replace q : true = true := q; clear q) | (revert q; intro)) | ((with_reducible show _ = _); exact rfl))); all_goals try (conv => whnf); all_goals simp only [eq_self,true_iff,Bool.false_eq_true,false_iff,ed_eta,fl_eta,pt_eta,B_mk,Int.toNat_natCast] at *; all_goals (try contradiction); all_goals try (refine Chk.mk ?_; omega)))
      · rename_i h0 hw _
        rw [gapB_pos h0] at hlen1
        rw [hw (by have := hg.c _ h0; omega)]
        refine Chk.mk ?_; omega
      · rename_i h0 hw hw2 _
        rw [hw (by have := hg.c _ h0; omega),hw2 (by omega)]
        refine ⟨i + 1,by omega,by omega,?_⟩
        rw [gapN_step,gapB_pos h0,show u + ((i + 1 : Nat) : Int) = u + (i : Int) + 1 by omega]
        (repeat' ((conv => whnf); all_goals first | assumption | with_reducible exact True.intro | with_reducible apply And.intro | ((with_reducible show _ = _); exact rfl) | omega | trivial))
      · rename_i h0 hw _
        rw [gapB_neg h0] at hlen1
        rw [hw (by omega)]
        refine Chk.mk ?_; omega
      · rename_i h0 hw hw2 _
        rw [hw (by omega)]
        refine ⟨i + 1,by omega,by omega,?_⟩
        rw [gapN_step,gapB_neg h0,show u + ((i + 1 : Nat) : Int) = u + (i : Int) + 1 by omega]
        (repeat' ((conv => whnf); all_goals first | assumption | with_reducible exact True.intro | with_reducible apply And.intro | ((with_reducible show _ = _); exact rfl) | omega | trivial))
      · exact Chk.mk (by show (0 + 1) * 32 ≤ _; decide)
      · have e : i = (v - u).toNat := by omega
        subst e
        refine ⟨.tup [],_,?_,h1 (.inr (by assumption))⟩
        (repeat' ((conv => whnf); all_goals first | assumption | with_reducible exact True.intro | with_reducible apply And.intro | ((with_reducible show _ = _); exact rfl) | omega | trivial))
      · have e : i = (v - u).toNat := by omega
        subst e
        refine ⟨.tup [],_,?_,h2 fun hh => hh.elim (by assumption) (fun h => h (Classical.not_not.1 (by assumption)))⟩
        (repeat' ((conv => whnf); all_goals first | assumption | with_reducible exact True.intro | with_reducible apply And.intro | ((with_reducible show _ = _); exact rfl) | omega | trivial))
      · exact Chk.mk (by show (0 + 1) * 32 ≤ _; decide)
      · have e : i = (v - u).toNat := by omega
        subst e
        refine ⟨.tup [],_,?_,h1 (.inl (by assumption))⟩
        (repeat' ((conv => whnf); all_goals first | assumption | with_reducible exact True.intro | with_reducible apply And.intro | ((with_reducible show _ = _); exact rfl) | omega | trivial))
  · rename_i la sa lb sb n out x y u v
    obtain ⟨hg,hol,h1,h2⟩ := h
    replace hg := hg.out
    replace hol := hol.out
    have hu := hg.u
    have hv := hg.v
    have ha := hg.a
    have hb := hg.b
    have hR := hg.R
    have hbl := hb.le
    refine CallOk.of_wpO (p := ⟨S1,C86,76,2,fun _ => none⟩) (par_ok C86_ok _ _) (by kernel_rfl : R1.T.fn 86 = some ⟨76,Try.f86.body.getD .skip,[]⟩) rfl (Nat.le_of_ble_eq_true rfl) ?_ (fun h => by cases h)
    (((repeat' ((conv => whnf); all_goals first | assumption | with_reducible exact True.intro | with_reducible apply And.intro | (intro q; first | (exfalso; exact Bool.noConfusion q) | (exfalso; with_reducible exact q rfl) | subst q | (replace q : false = false := q; clear q) | (replace q : true = true := q; clear q) | (revert q; intro)) | ((with_reducible show _ = _); exact rfl))); all_goals try (conv => whnf); all_goals simp only [eq_self,true_iff,Bool.false_eq_true,false_iff,ed_eta,fl_eta,pt_eta,B_mk,Int.toNat_natCast] at *; all_goals (try contradiction); all_goals try (refine Chk.mk ?_; omega)))
    refine ⟨Nat,fun i => ([(0,.ptr 0 0),(1,.int .i64 x),(2,.int .i64 y),(4,.int .i64 v),(10,.str (gapN la sa lb sb n u i)),(11,.int .i64 (u + (i : Int)))],[.cells false 129 [.sl 0 la,.sl 3 sa,.sl 0 lb,.sl 3 sb,.int .i64 n,.ol 1],.list false false 97 0 out]),fun i => i ≤ (v - u).toNat,fun i => (v - u).toNat - i,0,Nat.zero_le _,?_,?_⟩
    · (repeat' ((conv => whnf); all_goals first | assumption | with_reducible exact True.intro | with_reducible apply And.intro | ((with_reducible show _ = _); exact rfl) | omega | trivial))
    · intro i hi
      have hlen := gapN_len ha hb n u i
      have hlen1 := gapB_len ha hb n (u + (i : Int))
      (((repeat' ((conv => whnf); all_goals first | assumption | with_reducible exact True.intro | with_reducible apply And.intro | (intro q; first | (exfalso; exact Bool.noConfusion q) | (exfalso; with_reducible exact q rfl) | subst q | (replace q : false = false := q; clear q) | (replace q : true = true := q; clear q) | (revert q; intro)) | ((with_reducible show _ = _); exact rfl))); all_goals try (conv => whnf); all_goals simp only [eq_self,true_iff,Bool.false_eq_true,false_iff,ed_eta,fl_eta,pt_eta,B_mk,Int.toNat_natCast] at *; all_goals (try contradiction); all_goals try (refine Chk.mk ?_; omega)))
      · rename_i h0 hw _
        rw [gapB_pos h0] at hlen1
        rw [hw (by have := hg.c _ h0; omega)]
        refine Chk.mk ?_; omega
      · rename_i h0 hw hw2 _
        rw [hw (by have := hg.c _ h0; omega),hw2 (by omega)]
        refine ⟨i + 1,by omega,by omega,?_⟩
        rw [gapN_step,gapB_pos h0,show u + ((i + 1 : Nat) : Int) = u + (i : Int) + 1 by omega]
        (repeat' ((conv => whnf); all_goals first | assumption | with_reducible exact True.intro | with_reducible apply And.intro | ((with_reducible show _ = _); exact rfl) | omega | trivial))
      · rename_i h0 hw _
        rw [gapB_neg h0] at hlen1
        rw [hw (by omega)]
        refine Chk.mk ?_; omega
      · rename_i h0 hw hw2 _
        rw [hw (by omega)]
        refine ⟨i + 1,by omega,by omega,?_⟩
        rw [gapN_step,gapB_neg h0,show u + ((i + 1 : Nat) : Int) = u + (i : Int) + 1 by omega]
        (repeat' ((conv => whnf); all_goals first | assumption | with_reducible exact True.intro | with_reducible apply And.intro | ((with_reducible show _ = _); exact rfl) | omega | trivial))
      · exact Chk.mk (Nat.le_trans (Nat.mul_le_mul_right 32 (Nat.succ_le_succ hol)) (by show 1000001 * 32 ≤ 140737488355328; decide))
      · have e : i = (v - u).toNat := by omega
        subst e
        refine ⟨.tup [],_,?_,h1 (.inr (by assumption))⟩
        (repeat' ((conv => whnf); all_goals first | assumption | with_reducible exact True.intro | with_reducible apply And.intro | ((with_reducible show _ = _); exact rfl) | omega | trivial))
      · have e : i = (v - u).toNat := by omega
        subst e
        refine ⟨.tup [],_,?_,h2 fun hh => hh.elim (by assumption) (fun h => h (Classical.not_not.1 (by assumption)))⟩
        (repeat' ((conv => whnf); all_goals first | assumption | with_reducible exact True.intro | with_reducible apply And.intro | ((with_reducible show _ = _); exact rfl) | omega | trivial))
      · exact Chk.mk (Nat.le_trans (Nat.mul_le_mul_right 32 (Nat.succ_le_succ hol)) (by show 1000001 * 32 ≤ 140737488355328; decide))
      · have e : i = (v - u).toNat := by omega
        subst e
        refine ⟨.tup [],_,?_,h1 (.inl (by assumption))⟩
        (repeat' ((conv => whnf); all_goals first | assumption | with_reducible exact True.intro | with_reducible apply And.intro | ((with_reducible show _ = _); exact rfl) | omega | trivial))
  · exact h.elim
theorem k86L : SpecOk R1.T S1 86 (lifted sp86) := lifted_ok sys1.1 k86
end Go.Sx

/-
  SX: Grow, Goes, Kept.
-/
namespace Go.Sx
open Go Go.Ev Go.RowKit Go.Proofs
set_option maxRecDepth 100000
set_option maxHeartbeats 4000000
def sp72j : Spec U1 := ⟨false,false,fun H args K => match args with
  | [.sl 0 l] => K (.int .i64 (W (growS l))) H
  | _ => False⟩
theorem k72j : SpecOk R1.T S1 72 sp72j := by
  intro H args K h; unfold sp72j at h; dsimp only at h; split at h
  · rename_i l
    refine st C0_ok (by kernel_rfl : R1.T.fn 72 = some ⟨25,Try.f72.body.getD .skip,[.tmp 2]⟩) rfl rfl ?_
    (((repeat' ((conv => whnf); all_goals first | assumption | with_reducible exact True.intro | with_reducible apply And.intro | (intro q; first | (exfalso; exact Bool.noConfusion q) | (exfalso; with_reducible exact q rfl) | subst q | (replace q : false = false := q; clear q) | (replace q : true = true := q; clear q) | (revert q; intro)) | ((with_reducible show _ = _); exact rfl))); all_goals try (conv => whnf); all_goals simp only [eq_self,true_iff,Bool.false_eq_true,false_iff,ed_eta,fl_eta,pt_eta,B_mk,Int.toNat_natCast] at *; all_goals (try contradiction); all_goals try (refine Chk.mk ?_; omega)))
    refine ⟨Nat × Int,fun y => ([(3,.int .i64 y.2),(6,.sl 0 l),(7,.int .i64 l.length),(8,.int .i64 y.1)],[]),fun y => y.1 ≤ l.length ∧ y.2 = W (growS (l.take y.1)),fun y => l.length - y.1,(0,0),⟨Nat.zero_le _,rfl⟩,?_,?_⟩
    · (repeat' ((conv => whnf); all_goals first | assumption | with_reducible exact True.intro | with_reducible apply And.intro | ((with_reducible show _ = _); exact rfl) | omega | trivial))
    · intro ⟨i,g⟩ ⟨hi,hg⟩
      dsimp only at hi hg
      (((repeat' ((conv => whnf); all_goals first | assumption | with_reducible exact True.intro | with_reducible apply And.intro | (intro q; first | (exfalso; exact Bool.noConfusion q) | (exfalso; with_reducible exact q rfl) | subst q | (replace q : false = false := q; clear q) | (replace q : true = true := q; clear q) | (revert q; intro)) | ((with_reducible show _ = _); exact rfl))); all_goals try (conv => whnf); all_goals simp only [eq_self,true_iff,Bool.false_eq_true,false_iff,ed_eta,fl_eta,pt_eta,B_mk,Int.toNat_natCast] at *; all_goals (try contradiction); all_goals try (refine Chk.mk ?_; omega)))
      · rename_i e he _ _ _ hw _
        rw [hw (by omega)]
        refine ⟨(i + 1,_),by simp only; omega,⟨by simp only; omega,?_⟩,by (repeat' ((conv => whnf); all_goals first | assumption | with_reducible exact True.intro | with_reducible apply And.intro | ((with_reducible show _ = _); exact rfl) | omega | trivial))⟩
        simp only
        rw [growS_step he,hg]
        show W _ = W _
        simp only [W_def,wr]
        omega
      · have : i = l.length := by omega
        subst this
        rw [List.take_length] at hg
        subst hg
        exact h
  · exact h.elim
def sp34 : Spec U1 := ⟨false,false,fun H args K => match args with
  | [.sl 0 l,.int .i64 n] => (Right l n → K (.tup [.int .i64 (W (growS l)),.nilI]) H) ∧ (¬ Right l n → K (.tup [.int .i64 0,.iface 37 (.int .i64 2)]) H)
  | _ => False⟩
theorem k34 : SpecOk R1.T S1 34 sp34 := by
  intro H args K h; unfold sp34 at h; dsimp only at h; split at h
  · rename_i l n
    obtain ⟨h1,h2⟩ := h
    refine st (addC_ok j35 (addC_ok k72j C0_ok)) (by kernel_rfl : R1.T.fn 34 = some ⟨13,Try.f34.body.getD .skip,[.tmp 4,.tmp 5]⟩) rfl rfl ?_
    (((repeat' ((conv => whnf); all_goals first | assumption | with_reducible exact True.intro | with_reducible apply And.intro | (intro q; first | (exfalso; exact Bool.noConfusion q) | (exfalso; with_reducible exact q rfl) | subst q | (replace q : false = false := q; clear q) | (replace q : true = true := q; clear q) | (revert q; intro)) | ((with_reducible show _ = _); exact rfl))); all_goals try (conv => whnf); all_goals simp only [eq_self,true_iff,Bool.false_eq_true,false_iff,ed_eta,fl_eta,pt_eta,B_mk,Int.toNat_natCast] at *; all_goals (try contradiction); all_goals try (refine Chk.mk ?_; omega)))
    · exact h1 (by assumption)
    · exact h2 (by assumption)
  · exact h.elim
def sp17j : Spec U1 := ⟨false,false,fun H args K => match args with
  | [.sl 0 l,.int .i64 n,.int .i64 q] => Chk (l.length ≤ 1000) ∧ Chk (Right l n) ∧ ((goS l n q).2 = 0 → K (.tup [.int .i64 (goS l n q).1,.nilI]) H) ∧ (¬ (goS l n q).2 = 0 → K (.tup [.int .i64 (goS l n q).1,.iface 37 (.int .i64 (goS l n q).2)]) H)
  | _ => False⟩
theorem k17j : SpecOk R1.T S1 17 sp17j := by
  intro H args K h; unfold sp17j at h; dsimp only at h; split at h
  · rename_i l n q
    obtain ⟨hl,hR,h1,h2⟩ := h
    replace hl := hl.out
    replace hR := hR.out
    refine st (addC_ok j35 (addC_ok k65 C0_ok)) (by kernel_rfl : R1.T.fn 17 = some ⟨39,Try.f17.body.getD .skip,[.tmp 6,.tmp 7]⟩) rfl rfl ?_
    (((repeat' ((conv => whnf); all_goals first | assumption | with_reducible exact True.intro | with_reducible apply And.intro | (intro q; first | (exfalso; exact Bool.noConfusion q) | (exfalso; with_reducible exact q rfl) | subst q | (replace q : false = false := q; clear q) | (replace q : true = true := q; clear q) | (revert q; intro)) | ((with_reducible show _ = _); exact rfl))); all_goals try (conv => whnf); all_goals simp only [eq_self,true_iff,Bool.false_eq_true,false_iff,ed_eta,fl_eta,pt_eta,B_mk,Int.toNat_natCast] at *; all_goals (try contradiction); all_goals try (refine Chk.mk ?_; omega)))
    refine ⟨Nat,fun i => ([(0,.sl 0 l),(1,.int .i64 n),(2,.int .i64 q),(17,.sl 2 (runsS l n)),(18,.int .i64 (runsS l n).length),(19,.int .i64 i)],[]),fun i => i ≤ (runsS l n).length ∧ NoB (InR q) (runsS l n) i,fun i => (runsS l n).length - i,0,⟨Nat.zero_le _,.zero⟩,?_,?_⟩
    · (repeat' ((conv => whnf); all_goals first | assumption | with_reducible exact True.intro | with_reducible apply And.intro | ((with_reducible show _ = _); exact rfl) | omega | trivial))
    · intro i ⟨hi,ho⟩
      (((repeat' ((conv => whnf); all_goals first | assumption | with_reducible exact True.intro | with_reducible apply And.intro | (intro q; first | (exfalso; exact Bool.noConfusion q) | (exfalso; with_reducible exact q rfl) | subst q | (replace q : false = false := q; clear q) | (replace q : true = true := q; clear q) | (revert q; intro)) | ((with_reducible show _ = _); exact rfl))); all_goals try (conv => whnf); all_goals simp only [eq_self,true_iff,Bool.false_eq_true,false_iff,ed_eta,fl_eta,pt_eta,B_mk,Int.toNat_natCast] at *; all_goals (try contradiction); all_goals try (refine Chk.mk ?_; omega)))
      · rename_i r hr _ _ h3 h4
        have hc := goS_at ho hr ⟨h3,h4⟩
        rw [hc] at h1
        exact h1 rfl
      · rename_i r hr hw _ h3 h4
        rw [hw (by omega)]
        refine ⟨i + 1,by omega,⟨by omega,ho.step hr fun hp => h4 hp.2⟩,?_⟩
        (repeat' ((conv => whnf); all_goals first | assumption | with_reducible exact True.intro | with_reducible apply And.intro | ((with_reducible show _ = _); exact rfl) | omega | trivial))
      · rename_i r hr hw _ h3
        rw [hw (by omega)]
        refine ⟨i + 1,by omega,⟨by omega,ho.step hr fun hp => h3 hp.1⟩,?_⟩
        (repeat' ((conv => whnf); all_goals first | assumption | with_reducible exact True.intro | with_reducible apply And.intro | ((with_reducible show _ = _); exact rfl) | omega | trivial))
      · have hc := goS_none ho (by omega)
        rw [hc] at h2
        exact h2 (by decide)
  · exact h.elim
def sp26 : Spec U1 := ⟨false,false,fun H args K => match H,args with
  | [],[.sl 0 l,.int .i64 n] => K (.func 68 [] [.ptr 0 0,.ptr 1 0]) [.cells false 22 [.sl 0 l],.cells false 3 [.int .i64 n]]
  | _,_ => False⟩
theorem k26 : SpecOk R1.T S1 26 sp26 := by
  intro H args K h; unfold sp26 at h; dsimp only at h; split at h
  · rename_i l n
    refine CallOk.of_wpO (p := ⟨S1,C0,6,0,fun _ => none⟩) (par_ok C0_ok _ _) (by kernel_rfl : R1.T.fn 26 = some ⟨6,Try.f26.body.getD .skip,[.tmp 4]⟩) rfl (Nat.le_of_ble_eq_true rfl) ?_ (fun _ => rfl)
    (repeat' ((conv => whnf); all_goals first | assumption | with_reducible exact True.intro | with_reducible apply And.intro | (intro q; first | (exfalso; exact Bool.noConfusion q) | (exfalso; with_reducible exact q rfl) | subst q | (replace q : false = false := q; clear q) | (replace q : true = true := q; clear q) | (revert q; intro)) | ((with_reducible show _ = _); exact rfl)))
    refine ⟨_,_,?_,h⟩
    (repeat' ((conv => whnf); all_goals first | assumption | with_reducible exact True.intro | with_reducible apply And.intro | ((with_reducible show _ = _); exact rfl) | omega | trivial))
  · exact h.elim
theorem k26L : SpecOk R1.T S1 26 (lifted sp26) := lifted_ok sys1.1 k26
end Go.Sx
