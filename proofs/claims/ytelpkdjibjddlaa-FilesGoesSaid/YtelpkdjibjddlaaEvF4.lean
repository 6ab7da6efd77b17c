/-
  SX: where a position goes under patches, by the program and by the document.
-/
import Derived.Test.YtelpkdjibjddlaaEvF3
namespace Go.Sx
open Go Go.Ev Go.RowKit Go.Proofs
set_option maxRecDepth 100000
set_option maxHeartbeats 4000000
open Classical in
noncomputable def appC (l : List Fl) (ps : List Pt) : Int := if FR l then (if mayN l ps ps.length = 0 then (if Big l ps ps.length then 4 else 0) else mayN l ps ps.length) else 2
open Classical in
noncomputable def goesF (go : List Ed → Int → Int → Int × Int) (l : List Fl) (ps : List Pt) (a b : Int) : Int × Int :=
  if appC l ps = 0 then (if a < 0 ∨ (l.length : Int) ≤ a then (0,5) else match l[a.toNat]? with
    | some f => go (editsOf ps f.nm) (((B f.tx).length : Nat) : Int) b
    | none => (0,5)) else (0,appC l ps)
section
variable {l : List Fl} {ps : List Pt}
theorem app2 (h : ¬ FR l) : appC l ps = 2 := by unfold appC; rw [if_neg h]
theorem appN (h : FR l) (h1 : ¬ mayN l ps ps.length = 0) : appC l ps = mayN l ps ps.length := by unfold appC; rw [if_pos h,if_neg h1]
theorem app4 (h : FR l) (h1 : mayN l ps ps.length = 0) (h2 : Big l ps ps.length) : appC l ps = 4 := by unfold appC; rw [if_pos h,if_pos h1,if_pos h2]
theorem app0 (h : FR l) (h1 : mayN l ps ps.length = 0) (h2 : ¬ Big l ps ps.length) : appC l ps = 0 := by unfold appC; rw [if_pos h,if_pos h1,if_neg h2]
theorem goesF_err {go : List Ed → Int → Int → Int × Int} {a b c : Int} (h : appC l ps = c) (h0 : ¬ c = 0) : goesF go l ps a b = (0,c) := by
  unfold goesF; rw [if_neg (by rw [h]; exact h0),h]
theorem goesF_out {go : List Ed → Int → Int → Int × Int} {a b : Int} (h : appC l ps = 0) (h0 : a < 0 ∨ (l.length : Int) ≤ a) : goesF go l ps a b = (0,5) := by
  unfold goesF; rw [if_pos h,if_pos h0]
theorem goesF_at {go : List Ed → Int → Int → Int × Int} {a b : Int} {f : Fl} (h : appC l ps = 0) (h0 : ¬ (a < 0 ∨ (l.length : Int) ≤ a)) (hf : l[a.toNat]? = some f) : goesF go l ps a b = go (editsOf ps f.nm) (((B f.tx).length : Nat) : Int) b := by
  unfold goesF; rw [if_pos h,if_neg h0,hf]
end
theorem edits_few {ps : List Pt} (hW : Few ps) (x : ByteArray) : (editsOf ps x).length ≤ 41 ∧ sumT (editsOf ps x) ≤ 40000 := by
  by_cases hi : 0 ≤ indexP ps x
  · obtain ⟨p,h1,h2,h3⟩ := edits_index.1 hi
    have := hW.at h1
    rw [h3]; exact ⟨this.1,this.2.2⟩
  · rw [edits_index.2 (by omega)]
    exact ⟨Nat.zero_le _,Nat.zero_le _⟩
def sp58 : Spec U1 := ⟨false,fun H args K => match args with
  | [.sl 1 l,.agg [.int .i64 a,.int .i64 b],.sl 4 ps] => Chk (Few ps) ∧ ((goesF goS l ps a b).2 = 0 → K (.tup [.agg [.int .i64 a,.int .i64 (goesF goS l ps a b).1],.nilI]) H) ∧ (¬ (goesF goS l ps a b).2 = 0 → K (.tup [.agg [.int .i64 0,.int .i64 0],.iface 37 (.int .i64 (goesF goS l ps a b).2)]) H)
  | _ => False⟩
abbrev C58 := addC 61 (lifted sp61) (addC 87 sp87 (addC 17 sp17 C0))
theorem C58_ok : COk C58 := addC_ok (lifted_ok sys1.1 k61) (addC_ok k87 (addC_ok k17 C0_ok))
theorem k58 : SpecOk R1.T S1 58 sp58 := by
  intro H args K h; unfold sp58 at h; dsimp only at h; split at h
  · rename_i l a b ps
    obtain ⟨hW,h1,h2⟩ := h
    replace hW := hW.out
    have hps := hW.1
    refine st C58_ok (by kernel_rfl : R1.T.fn 58 = some ⟨70,Try.f58.body.getD .skip,[.cell 6 81,.tmp 7]⟩) rfl rfl ?_
    (((repeat' ((conv => whnf); all_goals first | trivial | apply And.intro | (intro q; first | exact Bool.noConfusion q | subst q | (revert q; intro)))); all_goals try (conv => whnf); all_goals simp only [eq_self,true_iff,Bool.false_eq_true,false_iff,ed_eta,fl_eta,pt_eta,B_mk,Int.toNat_natCast] at *; all_goals try (refine Chk.mk ?_; omega)))
    all_goals try simp only [B_eta] at *
    · exact Chk.mk hW
    · rename_i hF _ _
      rw [goesF_err (app2 hF) (by decide)] at h2
      exact h2 (by decide)
    · rename_i hF hm _ _
      rw [goesF_err (appN hF hm) hm] at h2
      exact h2 hm
    · rename_i hF hm hb _ _
      rw [goesF_err (app4 hF hm hb) (by decide)] at h2
      exact h2 (by decide)
    · rename_i hF hm hb _ _ _ _ _ _ _ _ _ ha
      rw [goesF_out (app0 hF hm hb) (.inr ha)] at h2
      exact h2 (by decide)
    · exact (by omega : ps.length ≤ 1000000)
    · rename_i g hg _ _ _ _ _ _ _ _ _ hx
      obtain ⟨p,hp,_⟩ := edits_index.1 hx
      have := (List.getElem?_eq_some_iff.1 hp).1
      exact Chk.mk ⟨hx,by omega⟩
    · rename_i g hg p hp _ _ _ _ _ _ _ _ _ _
      have := (hW.at hp).1
      exact Chk.mk (by omega)
    · rename_i hF hm hb _ g hg p hp _ _ _ _ _ _ _ _ _ hx
      obtain ⟨q,hq,_,he⟩ := edits_index.1 hx
      rw [hp] at hq; cases hq
      rw [← he]
      exact Chk.mk (edits_right hF hm hg)
    · rename_i hF hm hb _ g hg p hp hz _ _ hn _ _ _ _ _ ha hx _ _
      obtain ⟨q,hq,_,he⟩ := edits_index.1 hx
      rw [hp] at hq; cases hq
      rw [← he] at hz ⊢
      rw [goesF_at (app0 hF hm hb) (by omega) hg] at h1
      exact h1 hz
    · rename_i hF hm hb _ g hg p hp hz _ _ hn _ _ _ _ _ ha hx _ _
      obtain ⟨q,hq,_,he⟩ := edits_index.1 hx
      rw [hp] at hq; cases hq
      rw [← he] at hz ⊢
      rw [goesF_at (app0 hF hm hb) (by omega) hg] at h2
      exact h2 hz
    · exact Chk.mk (Nat.zero_le _)
    · rename_i hF hm hb _ g hg _ _ _ _ _ _ _ _ _ hx
      have := edits_right hF hm hg
      rw [edits_index.2 (by omega)] at this
      exact Chk.mk this
    · rename_i hF hm hb _ g hg hz _ _ hn _ _ _ _ _ ha hx _ _
      have he := (edits_index (ps := ps) (x := g.nm)).2 (by omega)
      rw [goesF_at (app0 hF hm hb) (by omega) hg,he] at h1
      exact h1 hz
    · rename_i hF hm hb _ g hg hz _ _ hn _ _ _ _ _ ha hx _ _
      have he := (edits_index (ps := ps) (x := g.nm)).2 (by omega)
      rw [goesF_at (app0 hF hm hb) (by omega) hg,he] at h2
      exact h2 hz
    · rename_i hF hm hb _ _ ha _ _ _ _ _ _
      rw [goesF_out (app0 hF hm hb) (.inl ha)] at h2
      exact h2 (by decide)
  · exact h.elim
def sp59 : Spec U1 := ⟨false,fun H args K => match args with
  | [.sl 1 l,.agg [.int .i64 a,.int .i64 b],.sl 4 ps] => Chk (Few ps) ∧ Chk (∀ f ∈ l,f.Ok) ∧ ((goesF rgoS l ps a b).2 = 0 → K (.tup [.agg [.int .i64 a,.int .i64 (goesF rgoS l ps a b).1],.int .i64 0]) H) ∧ (¬ (goesF rgoS l ps a b).2 = 0 → K (.tup [.agg [.int .i64 0,.int .i64 0],.int .i64 (goesF rgoS l ps a b).2]) H)
  | _ => False⟩
abbrev C59 := addC 62 (lifted sp62) (addC 19 sp19 C0)
theorem C59_ok : COk C59 := addC_ok (lifted_ok sys1.1 k62) (addC_ok k19 C0_ok)
theorem k59 : SpecOk R1.T S1 59 sp59 := by
  intro H args K h; unfold sp59 at h; dsimp only at h; split at h
  · rename_i l a b ps
    obtain ⟨hW,hO,h1,h2⟩ := h
    replace hW := hW.out
    replace hO := hO.out
    have hps := hW.1
    refine st C59_ok (by kernel_rfl : R1.T.fn 59 = some ⟨80,Try.f59.body.getD .skip,[.cell 6 81,.tmp 7]⟩) rfl rfl ?_
    (((repeat' ((conv => whnf); all_goals first | trivial | apply And.intro | (intro q; first | exact Bool.noConfusion q | subst q | (revert q; intro)))); all_goals try (conv => whnf); all_goals simp only [eq_self,true_iff,Bool.false_eq_true,false_iff,ed_eta,fl_eta,pt_eta,B_mk,Int.toNat_natCast] at *; all_goals try (refine Chk.mk ?_; omega)))
    all_goals try simp only [B_eta] at *
    all_goals try contradiction
    all_goals try (exfalso; omega)
    · exact Chk.mk hW
    · exact Chk.mk hO
    · rename_i hF _
      rw [goesF_err (app2 hF) (by decide)] at h2
      exact h2 (by decide)
    · rename_i hF hm _
      rw [goesF_err (appN hF hm) hm] at h2
      exact h2 hm
    · rename_i hF hm hb _
      rw [goesF_err (app4 hF hm hb) (by decide)] at h2
      exact h2 (by decide)
    · rename_i hF hm hb _ _ _ _ _ _ _ _ ha
      rw [goesF_out (app0 hF hm hb) (.inr ha)] at h2
      exact h2 (by decide)
    · rename_i hF hm hb _ _ hna _ _ _ _ _ hnl
      have hlt : a.toNat < List.length (α := U1 1) l := by omega
      obtain ⟨f,hf⟩ : ∃ f : Fl,l[a.toNat]? = some f := ⟨_,List.getElem?_eq_getElem hlt⟩
      have hr := edits_right hF hm hf
      have hle := last_edits hm f.nm
      have hft := text_len hF hf
      have hfe := edits_few hW f.nm
      rw [goesF_at (app0 hF hm hb) (by omega) hf,← hle] at h1 h2
      rw [← hle] at hr hfe
      refine ⟨Nat,fun i => ([(0,.sl 1 l),(2,.sl 4 ps),(4,.ptr 0 0),(6,.ptr 1 0),(10,.sl 0 (lastS (ps.take i) f.nm)),(11,.int .i64 i)],[.cells false 81 [.int .i64 a,.int .i64 b],.cells false 81 [.int .i64 0,.int .i64 0]]),fun i => i ≤ ps.length,fun i => ps.length - i,0,Nat.zero_le _,?_,?_⟩
      · (repeat' ((conv => whnf); all_goals first | trivial | apply And.intro | omega))
      · intro i hi
        (((repeat' ((conv => whnf); all_goals first | trivial | apply And.intro | (intro q; first | exact Bool.noConfusion q | subst q | (revert q; intro)))); all_goals try (conv => whnf); all_goals simp only [eq_self,true_iff,Bool.false_eq_true,false_iff,ed_eta,fl_eta,pt_eta,B_mk,Int.toNat_natCast] at *; all_goals try (refine Chk.mk ?_; omega)))
        all_goals try simp only [B_eta] at *
        all_goals try simp only [hf,Option.some.injEq] at *
        all_goals subst_vars
        · rename_i p hp g q hq hw _ hx
          rw [hp] at hq; cases hq
          refine ⟨i + 1,by omega,by omega,?_⟩
          rw [last_step hp,show lastE g.nm (lastS (ps.take i) g.nm) p = p.es from if_pos hx]
          (repeat' ((conv => whnf); all_goals first | trivial | apply And.intro | omega))
        · rename_i p hp g hw _ hx
          refine ⟨i + 1,by omega,by omega,?_⟩
          rw [last_step hp,show lastE g.nm (lastS (ps.take i) g.nm) p = lastS (ps.take i) g.nm from if_neg hx]
          (repeat' ((conv => whnf); all_goals first | trivial | apply And.intro | omega))
        all_goals have hi' : i = ps.length := by omega
        all_goals subst hi'
        all_goals try rw [List.take_length] at *
        · exact Chk.mk (by omega)
        · exact Chk.mk hr
        · exact Chk.mk (by omega)
        · exact Chk.mk (by omega)
        · exact h2 (by assumption)
        · exact h1 (Decidable.not_not.1 (by assumption))
    · rename_i hF hm hb _ ha _ _ _ _ _ _
      rw [goesF_out (app0 hF hm hb) (.inl ha)] at h2
      exact h2 (by decide)
  · exact h.elim
end Go.Sx

