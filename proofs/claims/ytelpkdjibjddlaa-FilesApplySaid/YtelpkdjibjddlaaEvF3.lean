/-
  SX: the document's Apply of patches.
-/
import Derived.Test.YtelpkdjibjddlaaEvF2
namespace Go.Sx
open Go Go.Ev Go.RowKit Go.Proofs
set_option maxRecDepth 100000
set_option maxHeartbeats 4000000
def sp62 : Spec U1 := ⟨true,false,fun H args K => match H,args with
  | [],[.sl 1 l,.sl 4 ps] => Chk (Few ps) ∧ Chk (∀ f ∈ l,f.Ok) ∧ (¬ FR l → K (.tup [.nilS,.int .i64 2]) []) ∧ (FR l → ¬ mayN l ps ps.length = 0 → K (.tup [.nilS,.int .i64 (mayN l ps ps.length)]) []) ∧
    (FR l → mayN l ps ps.length = 0 → Big l ps ps.length → K (.tup [.nilS,.int .i64 4]) []) ∧ (FR l → mayN l ps ps.length = 0 → ¬ Big l ps ps.length → K (.tup [.ol 0,.int .i64 0]) [.list false false 68 1 (outS l ps)])
  | _,_ => False⟩
abbrev C62 := addC 49 sp49 (addC 50 spPlace (addC 23 spRight (addC 38 sp38 (addC 30 sp30 C0))))
theorem C62_ok : COk C62 := addC_ok k49 (addC_ok k50 (addC_ok k23 (addC_ok k38 (addC_ok k30 C0_ok))))
theorem k62 : SpecOk R1.T S1 62 sp62 := by
  intro H args K h; unfold sp62 at h; dsimp only at h; split at h
  · rename_i l ps
    obtain ⟨hW,hO,h1,h2,h3,h4⟩ := h
    replace hW := hW.out
    replace hO := hO.out
    have hps := hW.1
    refine CallOk.of_wpO (p := ⟨S1,C62,85,0,fun _ => none⟩) (par_ok C62_ok _ _) (by kernel_rfl : R1.T.fn 62 = some ⟨85,Try.f62.body.getD .skip,[.tmp 4,.tmp 5]⟩) rfl (Nat.le_of_ble_eq_true rfl) ?_ (fun h => by cases h)
    (((repeat' ((conv => whnf); all_goals first | assumption | with_reducible exact True.intro | with_reducible apply And.intro | (intro q; first | (exfalso; exact Bool.noConfusion q) | (exfalso; with_reducible exact q rfl) | subst q | (revert q; intro)) | ((with_reducible show _ = _); exact rfl))); all_goals try (conv => whnf); all_goals simp only [eq_self,true_iff,Bool.false_eq_true,false_iff,ed_eta,fl_eta,pt_eta,B_mk,Int.toNat_natCast] at *; all_goals (try contradiction); all_goals try (refine Chk.mk ?_; omega)))
    · rename_i hF _
      have : List.length (α := U1 1) l ≤ 8 := hF.2.1
      rw [show S1.bytes 68 = 32 from rfl]
      refine Chk.mk ?_
      have : List.length (α := U1 1) l ≤ 8 := hF.2.1
      show (0 + List.length (α := U1 1) l) * 32 ≤ _
      omega
    · rename_i hF _
      refine ⟨Nat × List Fl × Bool,fun y => ([(0,.sl 1 l),(1,.sl 4 ps),(6,.ol 0),(7,.bool y.2.2),(8,.int .i64 y.1)],[.list false false 68 1 y.2.1]),fun y => y.1 ≤ ps.length ∧ mayN l ps y.1 = 0 ∧ y.2.1.length = l.length ∧ (y.2.2 = true ↔ Big l ps y.1) ∧ (¬ Big l ps y.1 → y.2.1 = outS l (ps.take y.1)),fun y => ps.length - y.1,(0,l,false),⟨Nat.zero_le _,rfl,rfl,⟨nofun,fun h => absurd h Big.zero⟩,fun _ => rfl⟩,?_,?_⟩
      · (repeat' ((conv => whnf); all_goals first | assumption | with_reducible exact True.intro | with_reducible apply And.intro | ((with_reducible show _ = _); exact rfl) | omega | trivial))
      · intro ⟨i,o,b⟩ ⟨hi,hm,hl,hb,ho⟩
        dsimp only at hi hm hl hb ho
        (((repeat' ((conv => whnf); all_goals first | assumption | with_reducible exact True.intro | with_reducible apply And.intro | (intro q; first | (exfalso; exact Bool.noConfusion q) | (exfalso; with_reducible exact q rfl) | subst q | (revert q; intro)) | ((with_reducible show _ = _); exact rfl))); all_goals try (conv => whnf); all_goals simp only [eq_self,true_iff,Bool.false_eq_true,false_iff,ed_eta,fl_eta,pt_eta,B_mk,Int.toNat_natCast] at *; all_goals (try contradiction); all_goals try (refine Chk.mk ?_; omega)))
        all_goals try simp only [B_eta] at *
        · rename_i p hp _ hn
          refine ⟨.tup [.nilS,.int .i64 5],[],by (repeat' ((conv => whnf); all_goals first | assumption | with_reducible exact True.intro | with_reducible apply And.intro | ((with_reducible show _ = _); exact rfl) | omega | trivial)),?_⟩
          have := may_end hm hp (mayAt5 hn) (by decide)
          rw [this] at h2
          exact h2 hF (by decide)
        · rename_i p hp _ hn
          refine ⟨Nat,fun j => ([(0,.sl 1 l),(1,.sl 4 ps),(6,.ol 0),(7,.bool b),(8,.int .i64 i),(9,.ptr 1 0),(10,.int .i64 (placeS l p.nm)),(11,.int .i64 j)],[.list false false 68 1 o,.cells false 119 [.str (B p.nm),.sl 0 p.es]]),fun j => j ≤ i ∧ NoB (fun q : Pt => B q.nm = B p.nm) ps j,fun j => i - j,0,⟨Nat.zero_le _,NoB.zero⟩,?_,?_⟩
          · (repeat' ((conv => whnf); all_goals first | assumption | with_reducible exact True.intro | with_reducible apply And.intro | ((with_reducible show _ = _); exact rfl) | omega | trivial))
          · intro j ⟨hj,hd⟩
            have hpl : 0 ≤ placeS l p.nm := by omega
            have hpt := place_lt hpl
            obtain ⟨f,hf,_⟩ := place_spec hpl
            have hft := text_len hF hf
            have hfw := hW.at hp
            have htx := textOf_at hf
            have hof : ¬ Big l ps i → ¬ Twice ps i p.nm → o[(placeS l p.nm).toNat]? = some f := fun hB hT => by rw [ho hB,out_at hm hpl hT]; exact hf
            (((repeat' ((conv => whnf); all_goals first | assumption | with_reducible exact True.intro | with_reducible apply And.intro | (intro q; first | (exfalso; exact Bool.noConfusion q) | (exfalso; with_reducible exact q rfl) | subst q | (revert q; intro)) | ((with_reducible show _ = _); exact rfl))); all_goals try (conv => whnf); all_goals simp only [eq_self,true_iff,Bool.false_eq_true,false_iff,ed_eta,fl_eta,pt_eta,B_mk,Int.toNat_natCast] at *; all_goals (try contradiction); all_goals try (refine Chk.mk ?_; omega)))
            all_goals try simp only [B_eta] at *
            all_goals try simp only [hf,Option.some.injEq] at *
            all_goals subst_vars
            · rename_i x hx _ hxp
              have := may_end hm hp (mayAt6 hn ⟨j,x,by omega,hx,hxp⟩) (by decide)
              rw [this] at h2
              exact ⟨.tup [.nilS,.int .i64 6],[],by (repeat' ((conv => whnf); all_goals first | assumption | with_reducible exact True.intro | with_reducible apply And.intro | ((with_reducible show _ = _); exact rfl) | omega | trivial)),h2 hF (by decide)⟩
            · rename_i x hx hw _ hne
              refine ⟨j + 1,by omega,⟨by omega,hd.step hx hne⟩,?_⟩
              (repeat' ((conv => whnf); all_goals first | assumption | with_reducible exact True.intro | with_reducible apply And.intro | ((with_reducible show _ = _); exact rfl) | omega | trivial))
            · rename_i g hwG hwI _ _ hbig hR hnm
              have hT : ¬ Twice ps i p.nm := fun ⟨k,q,h1,h2,h3⟩ => hd k (by omega) q h2 h3
              have hs := grow_small hR (by omega) (by have := hfw.2.2; omega)
              have hg := ap_len hR
              rw [hs.1] at hwG hbig
              rw [hwG (by have := grow_le p.es hR.ord; have := hfw.2.2; omega)] at hbig
              have hbg : BigAt l p := by unfold BigAt; rw [htx]; exact hbig
              refine ⟨(i + 1,o,true),by simp only; omega,⟨by simp only; omega,?_,hl,⟨fun _ => ⟨i,p,Nat.lt_succ_self i,hp,hbg⟩,fun _ => rfl⟩,fun h => absurd ⟨i,p,Nat.lt_succ_self i,hp,hbg⟩ h⟩,?_⟩
              · show mayN l ps (i + 1) = 0
                rw [mayN_step hm hp]
                exact mayAtOk hn hT (by rw [htx]; exact hR)
              · (repeat' ((conv => whnf); all_goals first | assumption | with_reducible exact True.intro | with_reducible apply And.intro | ((with_reducible show _ = _); exact rfl) | omega | trivial))
            · rename_i g _ _ _ _ _ _
              exact (by omega : (B g.tx).length ≤ 140737488351232)
            · rename_i g _ _ _ _ _ _
              have := hfw.2.2
              exact (by omega : (B g.tx).length + sumT p.es ≤ 1000000)
            · rename_i g _ _ _ _ hR _
              exact app_small hR hft hfw.2.2
            · rename_i g e he hwI _ _ hwG hbig hR hnm
              have hT : ¬ Twice ps i p.nm := fun ⟨k,q,h1,h2,h3⟩ => hd k (by omega) q h2 h3
              have hs := grow_small hR (by omega) (by have := hfw.2.2; omega)
              have hg := ap_len hR
              rw [hs.1] at hwG hbig
              have hlo : -(4000 : Int) ≤ (((B g.tx).length : Nat) : Int) + growS p.es := by omega
              rw [hwG (by have := grow_le p.es hR.ord; have := hfw.2.2; omega)] at hbig
              have hbg : ¬ BigAt l p := by unfold BigAt; rw [htx]; exact hbig
              have hBi : Big l ps (i + 1) ↔ Big l ps i := ⟨fun q => by
                false_or_by_contra
                rename_i hq
                exact Big.step hq hp hbg q,fun q => q.mono (Nat.le_succ i)⟩
              refine ⟨(i + 1,o.set (placeS l p.nm).toNat ⟨e.nm,rapS g.tx p.es⟩,b),by simp only; omega,⟨by simp only; omega,?_,by simp only [List.length_set]; exact hl,hb.trans hBi.symm,fun h => ?_⟩,?_⟩
              · show mayN l ps (i + 1) = 0
                rw [mayN_step hm hp]
                exact mayAtOk hn hT (by rw [htx]; exact hR)
              · have hB : ¬ Big l ps i := fun q => h (hBi.2 q)
                have := hof hB hT
                rw [this] at he
                cases he
                have ho := ho hB
                rw [ho] at this
                show o.set _ _ = outS l (ps.take (i + 1))
                rw [app_step hp this htx,ho,ap_eq hR]
              · (repeat' ((conv => whnf); all_goals first | assumption | with_reducible exact True.intro | with_reducible apply And.intro | ((with_reducible show _ = _); exact rfl) | omega | trivial))
            · rename_i g _ hR _ hnm
              have hT : ¬ Twice ps i p.nm := fun ⟨k,q,h1,h2,h3⟩ => hd k (by omega) q h2 h3
              have := may_end hm hp (mayAt2 hn hT (by rw [htx]; exact hR)) (by decide)
              rw [this] at h2
              exact ⟨.tup [.nilS,.int .i64 2],[],by (repeat' ((conv => whnf); all_goals first | assumption | with_reducible exact True.intro | with_reducible apply And.intro | ((with_reducible show _ = _); exact rfl) | omega | trivial)),h2 hF (by decide)⟩
        · rename_i _ _
          have : i = ps.length := by omega
          subst this
          exact ⟨.tup [.nilS,.int .i64 4],[],by (repeat' ((conv => whnf); all_goals first | assumption | with_reducible exact True.intro | with_reducible apply And.intro | ((with_reducible show _ = _); exact rfl) | omega | trivial)),h3 hF hm hb⟩
        · have : i = ps.length := by omega
          subst this
          rw [List.take_length] at ho
          have ho := ho hb
          subst ho
          exact ⟨.tup [.ol 0,.int .i64 0],[.list false false 68 1 (outS l ps)],by (repeat' ((conv => whnf); all_goals first | assumption | with_reducible exact True.intro | with_reducible apply And.intro | ((with_reducible show _ = _); exact rfl) | omega | trivial)),h4 hF hm hb⟩
    · rename_i hF _
      exact ⟨.tup [.nilS,.int .i64 2],[],by (repeat' ((conv => whnf); all_goals first | assumption | with_reducible exact True.intro | with_reducible apply And.intro | ((with_reducible show _ = _); exact rfl) | omega | trivial)),h1 hF⟩
  · exact h.elim
end Go.Sx

