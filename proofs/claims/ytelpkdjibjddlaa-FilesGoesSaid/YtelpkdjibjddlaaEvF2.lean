/-
  SX: the layer files: may patches be applied, and applying them.
-/
import Derived.Test.YtelpkdjibjddlaaEvF1
namespace Go.Sx
open Go Go.Ev Go.RowKit Go.Proofs
set_option maxRecDepth 100000
set_option maxHeartbeats 4000000
@[simp] theorem B_eta (x : ByteArray) : (⟨⟨B x⟩⟩ : ByteArray) = x := rfl
theorem may_end {l : List Fl} {ps : List Pt} {i : Nat} {p : Pt} {c : Int} (hm : mayN l ps i = 0) (hp : ps[i]? = some p) (hc : mayAt l ps i p = c) (h0 : ¬ c = 0) : mayN l ps ps.length = c := by
  have h1 := mayN_step hm hp
  rw [← hc,← h1]
  exact mayN_stop (by rw [h1,hc]; exact h0) (List.getElem?_eq_some_iff.1 hp).1
def sp89 : Spec U1 := ⟨false,fun H args K => match args with
  | [.sl 1 l,.sl 4 ps] => Chk (FR l) ∧ Chk (ps.length ≤ 1000000) ∧ (mayN l ps ps.length = 0 → K .nilI H) ∧ (¬ mayN l ps ps.length = 0 → K (.iface 37 (.int .i64 (mayN l ps ps.length))) H)
  | _ => False⟩
abbrev C89 := addC 44 sp44 (addC 101 sp101 (addC 35 spRight C0))
theorem C89_ok : COk C89 := addC_ok k44 (addC_ok k101 (addC_ok k35 C0_ok))
theorem k89 : SpecOk R1.T S1 89 sp89 := by
  intro H args K h; unfold sp89 at h; dsimp only at h; split at h
  · rename_i l ps
    obtain ⟨hF,h1,h2,h3⟩ := h
    replace hF := hF.out
    replace h1 := h1.out
    refine st C89_ok (by kernel_rfl : R1.T.fn 89 = some ⟨49,Try.f89.body.getD .skip,[.tmp 4]⟩) rfl rfl ?_
    repeat' (conv => whnf); all_goals intro hL
    conv => whnf
    refine ⟨Nat,fun i => ([(0,.sl 1 l),(1,.sl 4 ps),(10,.sl 4 ps),(11,.int .i64 ps.length),(12,.int .i64 i)],[]),fun i => i ≤ ps.length ∧ mayN l ps i = 0,fun i => ps.length - i,0,⟨Nat.zero_le _,rfl⟩,?_,?_⟩
    · (repeat' ((conv => whnf); all_goals first | trivial | apply And.intro | omega))
    · intro i ⟨hi,hm⟩
      (((repeat' ((conv => whnf); all_goals first | trivial | apply And.intro | (intro q; first | exact Bool.noConfusion q | subst q | (revert q; intro)))); all_goals try (conv => whnf); all_goals simp only [eq_self,true_iff,Bool.false_eq_true,false_iff,ed_eta,fl_eta,pt_eta,B_mk,Int.toNat_natCast] at *; all_goals try (refine Chk.mk ?_; omega)))
      all_goals try simp only [B_eta] at *
      · rename_i p hp hn _ _ _
        rw [may_end hm hp (mayAt5 hn) (by decide)] at h3
        exact h3 (by decide)
      · simp; omega
      · rename_i p hp hn _ _ _ ht
        rw [may_end hm hp (mayAt6 hn (indexP_take.1 ht)) (by decide)] at h3
        exact h3 (by decide)
      · rename_i p hp hn _ _ _ ht
        have := place_lt (l := l) (x := p.nm) (by omega)
        exact Chk.mk ⟨by omega,by omega⟩
      · rename_i p hp hn f hf hw _ _ _ ht hr _
        refine ⟨i + 1,by omega,⟨by omega,?_⟩,?_⟩
        · rw [mayN_step hm hp]
          exact mayAtOk hn (fun q => ht (indexP_take.2 q)) (by rw [textOf_at hf]; exact hr)
        · (repeat' ((conv => whnf); all_goals first | trivial | apply And.intro | omega))
      · rename_i p hp hn f hf _ _ _ ht hr _
        rw [may_end hm hp (mayAt2 hn (fun q => ht (indexP_take.2 q)) (by rw [textOf_at hf]; exact hr)) (by decide)] at h3
        exact h3 (by decide)
      · have : i = ps.length := by omega
        subst this
        exact h2 hm
  · exact h.elim
theorem Few.at {l : List Pt} (h : Few l) {i : Nat} {p : Pt} (hp : l[i]? = some p) : FewAt p := h.2 p (List.mem_of_getElem? hp)
section
variable {l : List Fl} {ps : List Pt} {i : Nat} {p : Pt}
theorem app_place (hm : mayN l ps ps.length = 0) (hp : ps[i]? = some p) : 0 ≤ placeS (outS l (ps.take i)) p.nm ∧ (placeS (outS l (ps.take i)) p.nm).toNat < (outS l (ps.take i)).length := by
  have h := (mayAt0 (mayN_at hm (List.getElem?_eq_some_iff.1 hp).1 hp)).1
  rw [out_place,out_len]
  exact ⟨h,place_lt h⟩
theorem text_len (hF : FR l) {j : Nat} {f : Fl} (hf : l[j]? = some f) : (B f.tx).length ≤ 4000 := by have := (hF.2.2 j f hf).2.1; omega
theorem app_file (hF : FR l) (hm : mayN l ps ps.length = 0) (hp : ps[i]? = some p) {f : Fl} (hf : (outS l (ps.take i))[(placeS (outS l (ps.take i)) p.nm).toNat]? = some f) : textOf l p.nm = f.tx ∧ Right p.es (((B f.tx).length : Nat) : Int) ∧ (B f.tx).length ≤ 4000 ∧ l[(placeS l p.nm).toNat]? = some f := by
  have hi := (List.getElem?_eq_some_iff.1 hp).1
  obtain ⟨h1,h2,h3⟩ := mayAt0 (mayN_at hm hi hp)
  rw [out_place,out_at (mayN_zero hm (Nat.le_of_lt hi)) h1 h2] at hf
  have ht := textOf_at hf
  exact ⟨ht,by rw [ht] at h3; exact h3,text_len hF hf,hf⟩
theorem app_small {x : ByteArray} {es : List Ed} (hR : Right es (((B x).length : Nat) : Int)) (hx : (B x).length ≤ 4000) (hs : sumT es ≤ 40000) : mayC (B x).length es = 0 := by
  have h1 := grow_le es hR.ord
  have h2 := grow_small hR (by omega) (by omega)
  exact mayOk hR (by rw [h2.2]; omega)
theorem app_big {f : Fl} (ht : textOf l p.nm = f.tx) (hR : Right p.es (((B f.tx).length : Nat) : Int)) : BigAt l p ↔ (4000 : Int) < (((B (apS f.tx p.es)).length : Nat) : Int) := by
  unfold BigAt
  rw [ap_len hR,ht]
theorem app_step (hp : ps[i]? = some p) {f : Fl} (hf : (outS l (ps.take i))[(placeS l p.nm).toNat]? = some f) (ht : textOf l p.nm = f.tx) : outS l (ps.take (i + 1)) = (outS l (ps.take i)).set (placeS l p.nm).toNat ⟨f.nm,apS f.tx p.es⟩ := by
  rw [out_step hp]
  unfold outStep
  rw [hf]
  simp only [ht]
end
def sp61 : Spec U1 := ⟨true,fun H args K => match H,args with
  | [],[.sl 1 l,.sl 4 ps] => Chk (Few ps) ∧ (¬ FR l → K (.tup [.nilS,.iface 37 (.int .i64 2)]) []) ∧ (FR l → ¬ mayN l ps ps.length = 0 → K (.tup [.nilS,.iface 37 (.int .i64 (mayN l ps ps.length))]) []) ∧
    (FR l → mayN l ps ps.length = 0 → Big l ps ps.length → K (.tup [.nilS,.iface 37 (.int .i64 4)]) []) ∧ (FR l → mayN l ps ps.length = 0 → ¬ Big l ps ps.length → K (.tup [.ol 0,.nilI]) [.list false true 68 1 (outS l ps)])
  | _,_ => False⟩
abbrev C61 := addC 48 sp48 (addC 89 sp89 (addC 45 (lifted sp45) (addC 80 spPlace (addC 29 sp29 C0))))
theorem C61_ok : COk C61 := addC_ok k48 (addC_ok k89 (addC_ok k45L (addC_ok k80 (addC_ok k29 C0_ok))))
theorem k61 : SpecOk R1.T S1 61 sp61 := by
  intro H args K h; unfold sp61 at h; dsimp only at h; split at h
  · rename_i l ps
    obtain ⟨hW,h1,h2,h3,h4⟩ := h
    replace hW := hW.out
    refine CallOk.of_wpO (p := ⟨S1,C61,61,0,fun _ => none⟩) (par_ok C61_ok _ _) (by kernel_rfl : R1.T.fn 61 = some ⟨61,Try.f61.body.getD .skip,[.tmp 4,.tmp 5]⟩) rfl (Nat.le_of_ble_eq_true rfl) ?_ (fun h => by cases h)
    have hps := hW.1
    (((repeat' ((conv => whnf); all_goals first | trivial | apply And.intro | (intro q; first | exact Bool.noConfusion q | subst q | (revert q; intro)))); all_goals try (conv => whnf); all_goals simp only [eq_self,true_iff,Bool.false_eq_true,false_iff,ed_eta,fl_eta,pt_eta,B_mk,Int.toNat_natCast] at *; all_goals try (refine Chk.mk ?_; omega)))
    · rename_i hF _ _ _
      have := hF.2.1
      exact (by omega : l.length ≤ 1000000)
    · rename_i hm _ hF _ _ _
      refine ⟨Nat,fun i => ([(7,.ol 0),(25,.sl 4 ps),(26,.int .i64 ps.length),(27,.int .i64 i)],[.list false true 68 1 (outS l (ps.take i))]),fun i => i ≤ ps.length ∧ ¬ Big l ps i,fun i => ps.length - i,0,⟨Nat.zero_le _,Big.zero⟩,?_,?_⟩
      · (repeat' ((conv => whnf); all_goals first | trivial | apply And.intro | omega))
      · intro i ⟨hi,hb⟩
        have hol := out_len l (ps.take i)
        (((repeat' ((conv => whnf); all_goals first | trivial | apply And.intro | (intro q; first | exact Bool.noConfusion q | subst q | (revert q; intro)))); all_goals try (conv => whnf); all_goals simp only [eq_self,true_iff,Bool.false_eq_true,false_iff,ed_eta,fl_eta,pt_eta,B_mk,Int.toNat_natCast] at *; all_goals try (refine Chk.mk ?_; omega)))
        all_goals try simp only [B_eta] at *
        · rename_i p hp _
          have := app_place hm hp
          exact Chk.mk ⟨by omega,by omega⟩
        · rename_i p hp _
          have := app_place hm hp
          exact Chk.mk this.2
        · rename_i p hp f hf _
          have := (app_file hF hm hp hf).2.2.1
          exact (by omega : (B f.tx).length ≤ 140737488351232)
        · rename_i p hp f hf _
          have := (app_file hF hm hp hf).2.2.1
          have := (hW.at hp).2.2
          exact (by omega : (B f.tx).length + sumT p.es ≤ 1000000)
        · rename_i p hp f hf hc _ _ _ _ _ _ hbig
          obtain ⟨k1,k2,k3,k4⟩ := app_file hF hm hp hf
          refine ⟨.tup [.nilS,.iface 37 (.int .i64 4)],[],?_,h3 hF hm ⟨i,p,by omega,hp,(app_big k1 k2).2 hbig⟩⟩
          (repeat' ((conv => whnf); all_goals first | trivial | apply And.intro | omega))
        · rename_i p hp f hf hc _ _ _ _ _ _ hbig
          have := app_place hm hp
          exact Chk.mk this.2
        · rename_i p hp f hf hc g hg hw _ _ _ _ _ _ hbig
          rw [hf] at hg; cases hg
          obtain ⟨k1,k2,k3,k4⟩ := app_file hF hm hp hf
          refine ⟨i + 1,by omega,⟨by omega,Big.step hb hp fun q => hbig ((app_big k1 k2).1 q)⟩,?_⟩
          rw [out_place] at hf ⊢
          rw [app_step hp hf k1]
          (repeat' ((conv => whnf); all_goals first | trivial | apply And.intro | omega))
        · rename_i p hp f hf hc _ _ _ _ _ _ _
          obtain ⟨k1,k2,k3,k4⟩ := app_file hF hm hp hf
          exact absurd (app_small k2 k3 (hW.at hp).2.2) hc
        · have : i = ps.length := by omega
          subst this
          rw [List.take_length] at *
          refine ⟨.tup [.ol 0,.nilI],[.list false true 68 1 (outS l ps)],?_,h4 hF hm hb⟩
          (repeat' ((conv => whnf); all_goals first | trivial | apply And.intro | omega))
    · rename_i hm hF _ _ _
      exact ⟨.tup [.nilS,.iface 37 (.int .i64 (mayN l ps ps.length))],[],by (repeat' ((conv => whnf); all_goals first | trivial | apply And.intro | omega)),h2 hF hm⟩
    · rename_i hF _
      exact ⟨.tup [.nilS,.iface 37 (.int .i64 2)],[],by (repeat' ((conv => whnf); all_goals first | trivial | apply And.intro | omega)),h1 hF⟩
  · exact h.elim
end Go.Sx

