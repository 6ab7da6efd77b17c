/-
  SX: the layer files' small functions over patches.
-/
import Derived.Test.YtelpkdjibjddlaaEvSxZ
namespace Go.Sx
open Go Go.Ev Go.RowKit Go.Proofs
set_option maxRecDepth 100000
set_option maxHeartbeats 4000000
def sp100 : Spec U1 := ⟨false,false,fun H args K => match args with
  | [.agg [.str a,.sl 0 _],.rp 4 p 0] => ∀ q,(q = true ↔ a = B p.nm) → K (.bool q) H
  | _ => False⟩
def sp88 : Spec U1 := ⟨false,false,fun H args K => match args with
  | [.agg [.str a,.sl 0 _],.rp 1 p 0] => ∀ q,(q = true ↔ a = B p.nm) → K (.bool q) H
  | _ => False⟩
theorem k100 : SpecOk R1.T S1 100 sp100 := by
  intro H args K h; unfold sp100 at h; dsimp only at h; split at h
  · refine st C0_ok (by kernel_rfl : R1.T.fn 100 = some ⟨9,Try.f100.body.getD .skip,[.tmp 3]⟩) rfl rfl ?_
    repeat' (conv => whnf); all_goals first | apply And.intro | (intro q; first | exact Bool.noConfusion q | subst q | skip)
    all_goals exact h _ (by assumption)
  · exact h.elim
theorem k88 : SpecOk R1.T S1 88 sp88 := by
  intro H args K h; unfold sp88 at h; dsimp only at h; split at h
  · refine st C0_ok (by kernel_rfl : R1.T.fn 88 = some ⟨9,Try.f88.body.getD .skip,[.tmp 3]⟩) rfl rfl ?_
    repeat' (conv => whnf); all_goals first | apply And.intro | (intro q; first | exact Bool.noConfusion q | subst q | skip)
    all_goals exact h _ (by assumption)
  · exact h.elim
def sp87 : Spec U1 := ⟨false,false,fun H args K => match args with
  | [.sl 4 l,.func 100 [] [.rp 4 p 0]] => l.length ≤ 1000000 ∧ K (.int .i64 (indexP l p.nm)) H
  | [.sl 4 l,.func 88 [] [.rp 1 f 0]] => l.length ≤ 1000000 ∧ K (.int .i64 (indexP l f.nm)) H
  | _ => False⟩
abbrev Cc := addC 100 sp100 (addC 88 sp88 C0)
theorem Cc_ok : COk Cc := addC_ok k100 (addC_ok k88 C0_ok)
theorem k87 : SpecOk R1.T S1 87 sp87 := by
  intro H args K h; unfold sp87 at h; dsimp only at h; split at h
  · rename_i l p
    refine st Cc_ok (by kernel_rfl : R1.T.fn 87 = some ⟨19,Try.f87.body.getD .skip,[.tmp 4]⟩) rfl rfl ?_
    repeat' (conv => whnf); all_goals intro hL
    conv => whnf
    refine ⟨Nat,fun i => ([(0,.sl 4 l),(1,.func 100 [] [.rp 4 p 0]),(6,.sl 4 l),(7,.int .i64 l.length),(8,.int .i64 i)],[]),fun i => i ≤ l.length ∧ NoB (fun q : Pt => B q.nm = B p.nm) l i,fun i => l.length - i,0,⟨Nat.zero_le _,NoB.zero⟩,?_,?_⟩
    · repeat' (conv => whnf); all_goals first | trivial | apply And.intro
    · intro i hi
      (((repeat' ((conv => whnf); all_goals first | assumption | with_reducible exact True.intro | with_reducible apply And.intro | (intro q; first | (exfalso; exact Bool.noConfusion q) | (exfalso; with_reducible exact q rfl) | subst q | (revert q; intro)) | ((with_reducible show _ = _); exact rfl))); all_goals try (conv => whnf); all_goals simp only [eq_self,true_iff,Bool.false_eq_true,false_iff,ed_eta,fl_eta,pt_eta,B_mk,Int.toNat_natCast] at *; all_goals (try contradiction); all_goals try (refine Chk.mk ?_; omega)))
      · rw [indexP_at hi.2 (by assumption) (by assumption)] at h; exact h.2
      · refine ⟨i + 1,by omega,⟨by omega,hi.2.step (by assumption) (by assumption)⟩,?_⟩
        (repeat' ((conv => whnf); all_goals first | assumption | with_reducible exact True.intro | with_reducible apply And.intro | ((with_reducible show _ = _); exact rfl) | omega | trivial))
      · rw [indexP_none hi.2 (by omega)] at h; exact h.2
  · rename_i l p
    refine st Cc_ok (by kernel_rfl : R1.T.fn 87 = some ⟨19,Try.f87.body.getD .skip,[.tmp 4]⟩) rfl rfl ?_
    repeat' (conv => whnf); all_goals intro hL
    conv => whnf
    refine ⟨Nat,fun i => ([(0,.sl 4 l),(1,.func 88 [] [.rp 1 p 0]),(6,.sl 4 l),(7,.int .i64 l.length),(8,.int .i64 i)],[]),fun i => i ≤ l.length ∧ NoB (fun q : Pt => B q.nm = B p.nm) l i,fun i => l.length - i,0,⟨Nat.zero_le _,NoB.zero⟩,?_,?_⟩
    · repeat' (conv => whnf); all_goals first | trivial | apply And.intro
    · intro i hi
      (((repeat' ((conv => whnf); all_goals first | assumption | with_reducible exact True.intro | with_reducible apply And.intro | (intro q; first | (exfalso; exact Bool.noConfusion q) | (exfalso; with_reducible exact q rfl) | subst q | (revert q; intro)) | ((with_reducible show _ = _); exact rfl))); all_goals try (conv => whnf); all_goals simp only [eq_self,true_iff,Bool.false_eq_true,false_iff,ed_eta,fl_eta,pt_eta,B_mk,Int.toNat_natCast] at *; all_goals (try contradiction); all_goals try (refine Chk.mk ?_; omega)))
      · rw [indexP_at hi.2 (by assumption) (by assumption)] at h; exact h.2
      · refine ⟨i + 1,by omega,⟨by omega,hi.2.step (by assumption) (by assumption)⟩,?_⟩
        (repeat' ((conv => whnf); all_goals first | assumption | with_reducible exact True.intro | with_reducible apply And.intro | ((with_reducible show _ = _); exact rfl) | omega | trivial))
      · rw [indexP_none hi.2 (by omega)] at h; exact h.2
  · exact h.elim
def sp101 : Spec U1 := ⟨false,false,fun H args K => match args with
  | [.sl 4 l,.func 100 [] [.rp 4 p 0]] => l.length ≤ 1000000 ∧ ∀ q,(q = true ↔ 0 ≤ indexP l p.nm) → K (.bool q) H
  | _ => False⟩
theorem k101 : SpecOk R1.T S1 101 sp101 := by
  intro H args K h; unfold sp101 at h; dsimp only at h; split at h
  · rename_i l p
    obtain ⟨h1,h⟩ := h
    refine st (addC_ok k87 C0_ok) (by kernel_rfl : R1.T.fn 101 = some ⟨9,Try.f101.body.getD .skip,[.tmp 4]⟩) rfl rfl ?_
    (((repeat' ((conv => whnf); all_goals first | assumption | with_reducible exact True.intro | with_reducible apply And.intro | (intro q; first | (exfalso; exact Bool.noConfusion q) | (exfalso; with_reducible exact q rfl) | subst q | (revert q; intro)) | ((with_reducible show _ = _); exact rfl))); all_goals try (conv => whnf); all_goals simp only [eq_self,true_iff,Bool.false_eq_true,false_iff,ed_eta,fl_eta,pt_eta,B_mk,Int.toNat_natCast] at *; all_goals (try contradiction); all_goals try (refine Chk.mk ?_; omega)))
  · exact h.elim
def sp45 : Spec U1 := ⟨true,false,fun H args K => match H,args with
  | [],[.sl 1 l] => l.length ≤ 1000000 ∧ K (.ol 0) [.list false true 68 1 l]
  | _,_ => False⟩
theorem k45 : SpecOk R1.T S1 45 sp45 := by
  intro H args K h; unfold sp45 at h; dsimp only at h; split at h
  · rename_i l
    obtain ⟨h1,h⟩ := h
    refine CallOk.of_wpO (p := ⟨S1,C0,11,0,fun _ => none⟩) (par_ok C0_ok _ _) (by kernel_rfl : R1.T.fn 45 = some ⟨11,Try.f45.body.getD .skip,[.tmp 2]⟩) rfl (Nat.le_of_ble_eq_true rfl) ?_ (fun h => by cases h)
    (((repeat' ((conv => whnf); all_goals first | assumption | with_reducible exact True.intro | with_reducible apply And.intro | (intro q; first | (exfalso; exact Bool.noConfusion q) | (exfalso; with_reducible exact q rfl) | subst q | (revert q; intro)) | ((with_reducible show _ = _); exact rfl))); all_goals try (conv => whnf); all_goals simp only [eq_self,true_iff,Bool.false_eq_true,false_iff,ed_eta,fl_eta,pt_eta,B_mk,Int.toNat_natCast] at *; all_goals (try contradiction); all_goals try (refine Chk.mk ?_; omega)))
    · refine Chk.mk ⟨trivial,by omega,?_⟩
      rw [show S1.bytes 68 = 32 from rfl]; omega
    · exact Chk.mk (List.length_replicate ..).symm
    · refine ⟨.ol 0,[.list false true 68 1 l],?_,h⟩
      (repeat' ((conv => whnf); all_goals first | assumption | with_reducible exact True.intro | with_reducible apply And.intro | ((with_reducible show _ = _); exact rfl) | omega | trivial))
  · exact h.elim
theorem k45L : SpecOk R1.T S1 45 (lifted sp45) := lifted_ok sys1.1 k45
structure POk (p : Pt) : Prop where
  nm : (B p.nm).length ≤ 140737488351232
  es : ∀ e ∈ p.es,(B e.tx).length ≤ 140737488351232
def FewAt (p : Pt) : Prop := p.es.length ≤ 41 ∧ (B p.nm).length ≤ 40000 ∧ sumT p.es ≤ 40000
def Few (l : List Pt) : Prop := l.length ≤ 21 ∧ ∀ p ∈ l,FewAt p
def sp57 : Spec U1 := ⟨false,false,fun H args K => match args with
  | [.sl 4 l] => (∀ p ∈ l,POk p) ∧ ∀ q,(q = false → Few l) → K (.bool q) H
  | _ => False⟩
theorem k57 : SpecOk R1.T S1 57 sp57 := by
  intro H args K h; unfold sp57 at h; dsimp only at h; split at h
  · rename_i l
    obtain ⟨h1,h⟩ := h
    refine st C0_ok (by kernel_rfl : R1.T.fn 57 = some ⟨47,Try.f57.body.getD .skip,[.tmp 2]⟩) rfl rfl ?_
    repeat' (conv => whnf); all_goals intro hL
    conv => whnf
    refine ⟨Nat × Int,fun y => ([(3,.int .i64 y.2),(8,.sl 4 l),(9,.int .i64 l.length),(10,.int .i64 y.1)],[]),fun y => y.1 ≤ l.length ∧ y.1 ≤ 21 ∧ 0 ≤ y.2 ∧ y.2 ≤ 40000 ∧ ∀ k p,k < y.1 → l[k]? = some p → FewAt p,fun y => l.length - y.1,(0,0),⟨Nat.zero_le _,by decide,by decide,by decide,fun k p hk => absurd hk (Nat.not_lt_zero _)⟩,?_,?_⟩
    · repeat' (conv => whnf); all_goals first | trivial | apply And.intro
    · intro ⟨i,t⟩ ⟨hi1,hi2,ht1,ht2,hi⟩
      dsimp only at hi1 hi2 ht1 ht2 hi
      (((repeat' ((conv => whnf); all_goals first | assumption | with_reducible exact True.intro | with_reducible apply And.intro | (intro q; first | (exfalso; exact Bool.noConfusion q) | (exfalso; with_reducible exact q rfl) | subst q | (revert q; intro)) | ((with_reducible show _ = _); exact rfl))); all_goals try (conv => whnf); all_goals simp only [eq_self,true_iff,Bool.false_eq_true,false_iff,ed_eta,fl_eta,pt_eta,B_mk,Int.toNat_natCast] at *; all_goals (try contradiction); all_goals try (refine Chk.mk ?_; omega)))
      · rename_i p hp hw hl hlt
        have hpo := h1 p (List.mem_of_getElem? hp)
        have hn := hpo.nm
        rw [hw (by omega)]
        refine ⟨Nat × Int,fun y => ([(3,.int .i64 y.2),(4,.int .i64 i),(8,.sl 4 l),(9,.int .i64 l.length),(10,.int .i64 i),(21,.sl 0 p.es),(22,.int .i64 p.es.length),(23,.int .i64 y.1)],[]),fun y => y.1 ≤ p.es.length ∧ y.1 ≤ 41 ∧ (B p.nm).length + sumT (p.es.take y.1) ≤ y.2 ∧ y.2 ≤ 40000 + 140737488351232 ∧ (0 < y.1 → y.2 ≤ 40000),fun y => p.es.length - y.1,(0,t + (B p.nm).length),⟨Nat.zero_le _,Nat.zero_le _,by simp [sumT]; omega,by simp only; omega,fun h => absurd h (Nat.lt_irrefl 0)⟩,?_,?_⟩
        · (repeat' ((conv => whnf); all_goals first | assumption | with_reducible exact True.intro | with_reducible apply And.intro | ((with_reducible show _ = _); exact rfl) | omega | trivial))
        · intro ⟨j,u⟩ ⟨hj1,hj2,hu1,hu2,hu3⟩
          dsimp only at hj1 hj2 hu1 hu2 hu3
          (((repeat' ((conv => whnf); all_goals first | assumption | with_reducible exact True.intro | with_reducible apply And.intro | (intro q; first | (exfalso; exact Bool.noConfusion q) | (exfalso; with_reducible exact q rfl) | subst q | (revert q; intro)) | ((with_reducible show _ = _); exact rfl))); all_goals try (conv => whnf); all_goals simp only [eq_self,true_iff,Bool.false_eq_true,false_iff,ed_eta,fl_eta,pt_eta,B_mk,Int.toNat_natCast] at *; all_goals (try contradiction); all_goals try (refine Chk.mk ?_; omega)))
          · exact h _ nofun
          · rename_i e he hw hx _ _ _ _ h5
            have ht := hpo.es e (List.mem_of_getElem? he)
            have hs := sumT_step he
            rw [hw (by omega)] at h5 ⊢
            refine ⟨(j + 1,u + (B e.tx).length),by simp only; omega,⟨by simp only; omega,by simp only; omega,by simp only [hs]; omega,by simp only; omega,fun _ => by simp only; omega⟩,?_⟩
            (repeat' ((conv => whnf); all_goals first | assumption | with_reducible exact True.intro | with_reducible apply And.intro | ((with_reducible show _ = _); exact rfl) | omega | trivial))
          · exact h _ nofun
          · exact h _ nofun
          · have hj : j = p.es.length := by omega
            subst hj
            rw [List.take_length] at hu1
            refine ⟨(i + 1,u),by simp only; omega,⟨by simp only; omega,by simp only; omega,by simp only; omega,by simp only; omega,fun k q hk hq => ?_⟩,?_⟩
            · by_cases hki : k = i
              · subst hki
                rw [hp] at hq; cases hq
                exact ⟨hj2,by omega,by omega⟩
              · exact hi k q (by simp only at hk; omega) hq
            · (repeat' ((conv => whnf); all_goals first | assumption | with_reducible exact True.intro | with_reducible apply And.intro | ((with_reducible show _ = _); exact rfl) | omega | trivial))
          · exact h _ nofun
      · refine h _ fun _ => ⟨by omega,fun q hq => ?_⟩
        obtain ⟨k,hk⟩ := List.mem_iff_getElem?.1 hq
        have := (List.getElem?_eq_some_iff.1 hk).1
        exact hi k q (by omega) hk
  · exact h.elim
end Go.Sx

/-
  SX: the layer files: may patches be applied, and applying them.
-/
namespace Go.Sx
open Go Go.Ev Go.RowKit Go.Proofs
set_option maxRecDepth 100000
set_option maxHeartbeats 4000000
@[simp] theorem B_eta (x : ByteArray) : (⟨⟨B x⟩⟩ : ByteArray) = x := rfl
theorem may_end {l : List Fl} {ps : List Pt} {i : Nat} {p : Pt} {c : Int} (hm : mayN l ps i = 0) (hp : ps[i]? = some p) (hc : mayAt l ps i p = c) (h0 : ¬ c = 0) : mayN l ps ps.length = c := by
  have h1 := mayN_step hm hp
  rw [← hc,← h1]
  exact mayN_stop (by rw [h1,hc]; exact h0) (List.getElem?_eq_some_iff.1 hp).1
def sp89 : Spec U1 := ⟨false,false,fun H args K => match args with
  | [.sl 1 l,.sl 4 ps] => Chk (FR l) ∧ Chk (ps.length ≤ 1000000) ∧ (mayN l ps ps.length = 0 → K .nilI H) ∧ (¬ mayN l ps ps.length = 0 → K (.iface 37 (.int .i64 (mayN l ps ps.length))) H)
  | _ => False⟩
abbrev C89 := addC 44 sp44 (addC 101 sp101 (addC 35 spRight C0))
theorem C89_ok : COk C89 := addC_ok k44 (addC_ok k101 (addC_ok k35 C0_ok))
theorem k89 : SpecOk R1.T S1 89 sp89 := by
  intro H args K h; unfold sp89 at h; dsimp only at h; split at h
  · rename_i l ps
    obtain ⟨hF,h1,h2,h3⟩ := h
    replace hF := hF.out
    replace h1 := h1.out
    refine st C89_ok (by kernel_rfl : R1.T.fn 89 = some ⟨49,Try.f89.body.getD .skip,[.tmp 4]⟩) rfl rfl ?_
    repeat' (conv => whnf); all_goals intro hL
    conv => whnf
    refine ⟨Nat,fun i => ([(0,.sl 1 l),(1,.sl 4 ps),(10,.sl 4 ps),(11,.int .i64 ps.length),(12,.int .i64 i)],[]),fun i => i ≤ ps.length ∧ mayN l ps i = 0,fun i => ps.length - i,0,⟨Nat.zero_le _,rfl⟩,?_,?_⟩
    · (repeat' ((conv => whnf); all_goals first | assumption | with_reducible exact True.intro | with_reducible apply And.intro | ((with_reducible show _ = _); exact rfl) | omega | trivial))
    · intro i ⟨hi,hm⟩
      (((repeat' ((conv => whnf); all_goals first | assumption | with_reducible exact True.intro | with_reducible apply And.intro | (intro q; first | (exfalso; exact Bool.noConfusion q) | (exfalso; with_reducible exact q rfl) | subst q | (revert q; intro)) | ((with_reducible show _ = _); exact rfl))); all_goals try (conv => whnf); all_goals simp only [eq_self,true_iff,Bool.false_eq_true,false_iff,ed_eta,fl_eta,pt_eta,B_mk,Int.toNat_natCast] at *; all_goals (try contradiction); all_goals try (refine Chk.mk ?_; omega)))
      all_goals try simp only [B_eta] at *
      · rename_i p hp hn _ _ _
        rw [may_end hm hp (mayAt5 hn) (by decide)] at h3
        exact h3 (by decide)
      · simp; omega
      · rename_i p hp hn _ _ _ ht
        rw [may_end hm hp (mayAt6 hn (indexP_take.1 ht)) (by decide)] at h3
        exact h3 (by decide)
      · rename_i p hp hn _ _ _ ht
        have := place_lt (l := l) (x := p.nm) (by omega)
        exact Chk.mk ⟨by omega,by omega⟩
      · rename_i p hp hn f hf hw _ _ _ ht hr _
        refine ⟨i + 1,by omega,⟨by omega,?_⟩,?_⟩
        · rw [mayN_step hm hp]
          exact mayAtOk hn (fun q => ht (indexP_take.2 q)) (by rw [textOf_at hf]; exact hr)
        · (repeat' ((conv => whnf); all_goals first | assumption | with_reducible exact True.intro | with_reducible apply And.intro | ((with_reducible show _ = _); exact rfl) | omega | trivial))
      · rename_i p hp hn f hf _ _ _ ht hr _
        rw [may_end hm hp (mayAt2 hn (fun q => ht (indexP_take.2 q)) (by rw [textOf_at hf]; exact hr)) (by decide)] at h3
        exact h3 (by decide)
      · have : i = ps.length := by omega
        subst this
        exact h2 hm
  · exact h.elim
theorem Few.at {l : List Pt} (h : Few l) {i : Nat} {p : Pt} (hp : l[i]? = some p) : FewAt p := h.2 p (List.mem_of_getElem? hp)
section
variable {l : List Fl} {ps : List Pt} {i : Nat} {p : Pt}
theorem app_place (hm : mayN l ps ps.length = 0) (hp : ps[i]? = some p) : 0 ≤ placeS (outS l (ps.take i)) p.nm ∧ (placeS (outS l (ps.take i)) p.nm).toNat < (outS l (ps.take i)).length := by
  have h := (mayAt0 (mayN_at hm (List.getElem?_eq_some_iff.1 hp).1 hp)).1
  rw [out_place,out_len]
  exact ⟨h,place_lt h⟩
theorem text_len (hF : FR l) {j : Nat} {f : Fl} (hf : l[j]? = some f) : (B f.tx).length ≤ 4000 := by have := (hF.2.2 j f hf).2.1; omega
theorem app_file (hF : FR l) (hm : mayN l ps ps.length = 0) (hp : ps[i]? = some p) {f : Fl} (hf : (outS l (ps.take i))[(placeS (outS l (ps.take i)) p.nm).toNat]? = some f) : textOf l p.nm = f.tx ∧ Right p.es (((B f.tx).length : Nat) : Int) ∧ (B f.tx).length ≤ 4000 ∧ l[(placeS l p.nm).toNat]? = some f := by
  have hi := (List.getElem?_eq_some_iff.1 hp).1
  obtain ⟨h1,h2,h3⟩ := mayAt0 (mayN_at hm hi hp)
  rw [out_place,out_at (mayN_zero hm (Nat.le_of_lt hi)) h1 h2] at hf
  have ht := textOf_at hf
  exact ⟨ht,by rw [ht] at h3; exact h3,text_len hF hf,hf⟩
theorem app_small {x : ByteArray} {es : List Ed} (hR : Right es (((B x).length : Nat) : Int)) (hx : (B x).length ≤ 4000) (hs : sumT es ≤ 40000) : mayC (B x).length es = 0 := by
  have h1 := grow_le es hR.ord
  have h2 := grow_small hR (by omega) (by omega)
  exact mayOk hR (by rw [h2.2]; omega)
theorem app_big {f : Fl} (ht : textOf l p.nm = f.tx) (hR : Right p.es (((B f.tx).length : Nat) : Int)) : BigAt l p ↔ (4000 : Int) < (((B (apS f.tx p.es)).length : Nat) : Int) := by
  unfold BigAt
  rw [ap_len hR,ht]
theorem app_step (hp : ps[i]? = some p) {f : Fl} (hf : (outS l (ps.take i))[(placeS l p.nm).toNat]? = some f) (ht : textOf l p.nm = f.tx) : outS l (ps.take (i + 1)) = (outS l (ps.take i)).set (placeS l p.nm).toNat ⟨f.nm,apS f.tx p.es⟩ := by
  rw [out_step hp]
  unfold outStep
  rw [hf]
  simp only [ht]
end
def sp61 : Spec U1 := ⟨true,false,fun H args K => match H,args with
  | [],[.sl 1 l,.sl 4 ps] => Chk (Few ps) ∧ (¬ FR l → K (.tup [.nilS,.iface 37 (.int .i64 2)]) []) ∧ (FR l → ¬ mayN l ps ps.length = 0 → K (.tup [.nilS,.iface 37 (.int .i64 (mayN l ps ps.length))]) []) ∧
    (FR l → mayN l ps ps.length = 0 → Big l ps ps.length → K (.tup [.nilS,.iface 37 (.int .i64 4)]) []) ∧ (FR l → mayN l ps ps.length = 0 → ¬ Big l ps ps.length → K (.tup [.ol 0,.nilI]) [.list false true 68 1 (outS l ps)])
  | _,_ => False⟩
abbrev C61 := addC 48 sp48 (addC 89 sp89 (addC 45 (lifted sp45) (addC 80 spPlace (addC 29 sp29 C0))))
theorem C61_ok : COk C61 := addC_ok k48 (addC_ok k89 (addC_ok k45L (addC_ok k80 (addC_ok k29 C0_ok))))
theorem k61 : SpecOk R1.T S1 61 sp61 := by
  intro H args K h; unfold sp61 at h; dsimp only at h; split at h
  · rename_i l ps
    obtain ⟨hW,h1,h2,h3,h4⟩ := h
    replace hW := hW.out
    refine CallOk.of_wpO (p := ⟨S1,C61,61,0,fun _ => none⟩) (par_ok C61_ok _ _) (by kernel_rfl : R1.T.fn 61 = some ⟨61,Try.f61.body.getD .skip,[.tmp 4,.tmp 5]⟩) rfl (Nat.le_of_ble_eq_true rfl) ?_ (fun h => by cases h)
    have hps := hW.1
    (((repeat' ((conv => whnf); all_goals first | assumption | with_reducible exact True.intro | with_reducible apply And.intro | (intro q; first | (exfalso; exact Bool.noConfusion q) | (exfalso; with_reducible exact q rfl) | subst q | (revert q; intro)) | ((with_reducible show _ = _); exact rfl))); all_goals try (conv => whnf); all_goals simp only [eq_self,true_iff,Bool.false_eq_true,false_iff,ed_eta,fl_eta,pt_eta,B_mk,Int.toNat_natCast] at *; all_goals (try contradiction); all_goals try (refine Chk.mk ?_; omega)))
    · rename_i hF _ _ _
      have := hF.2.1
      exact (by omega : l.length ≤ 1000000)
    · rename_i hm _ hF _ _ _
      refine ⟨Nat,fun i => ([(7,.ol 0),(25,.sl 4 ps),(26,.int .i64 ps.length),(27,.int .i64 i)],[.list false true 68 1 (outS l (ps.take i))]),fun i => i ≤ ps.length ∧ ¬ Big l ps i,fun i => ps.length - i,0,⟨Nat.zero_le _,Big.zero⟩,?_,?_⟩
      · (repeat' ((conv => whnf); all_goals first | assumption | with_reducible exact True.intro | with_reducible apply And.intro | ((with_reducible show _ = _); exact rfl) | omega | trivial))
      · intro i ⟨hi,hb⟩
        have hol := out_len l (ps.take i)
        (((repeat' ((conv => whnf); all_goals first | assumption | with_reducible exact True.intro | with_reducible apply And.intro | (intro q; first | (exfalso; exact Bool.noConfusion q) | (exfalso; with_reducible exact q rfl) | subst q | (revert q; intro)) | ((with_reducible show _ = _); exact rfl))); all_goals try (conv => whnf); all_goals simp only [eq_self,true_iff,Bool.false_eq_true,false_iff,ed_eta,fl_eta,pt_eta,B_mk,Int.toNat_natCast] at *; all_goals (try contradiction); all_goals try (refine Chk.mk ?_; omega)))
        all_goals try simp only [B_eta] at *
        · rename_i p hp _
          have := app_place hm hp
          exact Chk.mk ⟨by omega,by omega⟩
        · rename_i p hp _
          have := app_place hm hp
          exact Chk.mk this.2
        · rename_i p hp f hf _
          have := (app_file hF hm hp hf).2.2.1
          exact (by omega : (B f.tx).length ≤ 140737488351232)
        · rename_i p hp f hf _
          have := (app_file hF hm hp hf).2.2.1
          have := (hW.at hp).2.2
          exact (by omega : (B f.tx).length + sumT p.es ≤ 1000000)
        · rename_i p hp f hf hc _ _ _ _ _ _ hbig
          obtain ⟨k1,k2,k3,k4⟩ := app_file hF hm hp hf
          refine ⟨.tup [.nilS,.iface 37 (.int .i64 4)],[],?_,h3 hF hm ⟨i,p,by omega,hp,(app_big k1 k2).2 hbig⟩⟩
          (repeat' ((conv => whnf); all_goals first | assumption | with_reducible exact True.intro | with_reducible apply And.intro | ((with_reducible show _ = _); exact rfl) | omega | trivial))
        · rename_i p hp f hf hc _ _ _ _ _ _ hbig
          have := app_place hm hp
          exact Chk.mk this.2
        · rename_i p hp f hf hc g hg hw _ _ _ _ _ _ hbig
          rw [hf] at hg; cases hg
          obtain ⟨k1,k2,k3,k4⟩ := app_file hF hm hp hf
          refine ⟨i + 1,by omega,⟨by omega,Big.step hb hp fun q => hbig ((app_big k1 k2).1 q)⟩,?_⟩
          rw [out_place] at hf ⊢
          rw [app_step hp hf k1]
          (repeat' ((conv => whnf); all_goals first | assumption | with_reducible exact True.intro | with_reducible apply And.intro | ((with_reducible show _ = _); exact rfl) | omega | trivial))
        · rename_i p hp f hf hc _ _ _ _ _ _ _
          obtain ⟨k1,k2,k3,k4⟩ := app_file hF hm hp hf
          exact absurd (app_small k2 k3 (hW.at hp).2.2) hc
        · have : i = ps.length := by omega
          subst this
          rw [List.take_length] at *
          refine ⟨.tup [.ol 0,.nilI],[.list false true 68 1 (outS l ps)],?_,h4 hF hm hb⟩
          (repeat' ((conv => whnf); all_goals first | assumption | with_reducible exact True.intro | with_reducible apply And.intro | ((with_reducible show _ = _); exact rfl) | omega | trivial))
    · rename_i hm hF _ _ _
      exact ⟨.tup [.nilS,.iface 37 (.int .i64 (mayN l ps ps.length))],[],by (repeat' ((conv => whnf); all_goals first | assumption | with_reducible exact True.intro | with_reducible apply And.intro | ((with_reducible show _ = _); exact rfl) | omega | trivial)),h2 hF hm⟩
    · rename_i hF _
      exact ⟨.tup [.nilS,.iface 37 (.int .i64 2)],[],by (repeat' ((conv => whnf); all_goals first | assumption | with_reducible exact True.intro | with_reducible apply And.intro | ((with_reducible show _ = _); exact rfl) | omega | trivial)),h1 hF⟩
  · exact h.elim
end Go.Sx
