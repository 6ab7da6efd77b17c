/-
  SX: the law FilesBack: what is told of the functions, and the walk of what is refused.
-/
import Derived.Test.YtelpkdjibjddlaaEvSm6
import Derived.Test.YtelpkdjibjddlaaEvSm9
namespace Go.Sx
open Go Go.Ev Go.RowKit Go.Proofs
set_option maxRecDepth 100000
set_option maxHeartbeats 4000000
section
variable (A : List Fl → List Pt → Int) (O : List Fl → List Pt → List Fl) (Bk : List Fl → List Pt → List Pt) (D : List Fl → List Fl → List Pt) (Fw : List Pt → Prop) (Fr : List Fl → Prop) (Nm : List Fl → List Fl → Prop)
def sp61v : Spec U1 := ⟨true,false,fun H args K => match H,args with
  | [],[.sl 1 l,.sl 4 ps] => Chk (Fw ps) ∧ (¬ A l ps = 0 → K (.tup [.nilS,.iface 37 (.int .i64 (A l ps))]) []) ∧ (A l ps = 0 → K (.tup [.ol 0,.nilI]) [.list false true 68 1 (O l ps)])
  | [],[.sl 1 l,.nilS] => (¬ A l [] = 0 → K (.tup [.nilS,.iface 37 (.int .i64 (A l []))]) []) ∧ (A l [] = 0 → K (.tup [.ol 0,.nilI]) [.list false true 68 1 (O l [])])
  | _,_ => False⟩
def sp57v : Spec U1 := ⟨false,false,fun H args K => match args with
  | [.sl 4 l] => (∀ p ∈ l,POk p) ∧ K (.bool true) H ∧ (Fw l → K (.bool false) H)
  | _ => False⟩
def sp63v : Spec U1 := ⟨false,false,fun H args K => match args with
  | [.sl 1 l,.sl 4 ps] => Chk (Fw ps) ∧ (¬ A l ps = 0 → K (.tup [.nilS,.iface 37 (.int .i64 (A l ps))]) H) ∧ (A l ps = 0 → K (.tup [.sl 4 (Bk l ps),.nilI]) H)
  | _ => False⟩
def sp41v : Spec U1 := ⟨false,false,fun H args K => match args with
  | [.sl 1 a,.sl 1 b] => Chk (Fr a) ∧ Chk (Fr b) ∧ Chk (Nm a b) ∧ (D a b = [] → K (.tup [.nilS,.nilI]) H) ∧ (¬ D a b = [] → K (.tup [.sl 4 (D a b),.nilI]) H)
  | _ => False⟩
end
section
variable (A : List Fl → List Pt → Int) (O : List Fl → List Pt → List Fl) (Bk : List Fl → List Pt → List Pt) (D : List Fl → List Fl → List Pt) (Fw : List Pt → Prop) (Fr : List Fl → Prop) (Nm : List Fl → List Fl → Prop)
abbrev C14v := addC 40 sp40 (addC 57 (sp57v Fw) (addC 61 (lifted (sp61v A O Fw)) (addC 63 (sp63v A Bk Fw) (addC 41 (sp41v D Fr Nm) (addC 46 sp46e C0)))))
theorem w14x (l : List Fl) (hl : ∀ f ∈ l,f.Ok) (ps : List Pt) (hps : ∀ p ∈ ps,POk p) (hW : ¬ Fw ps) :
    wp ⟨S1,(C14v A O Bk D Fw Fr Nm),77,0,fun _ => none⟩ (restOf (Try.f14.body.getD .skip)) ((13,.bool false) :: (12,.bool true) :: (4,.bool false) :: frm0 0 [.sl 1 l,.sl 4 ps]) [] (fin ⟨S1,(C14v A O Bk D Fw Fr Nm),77,0,fun _ => none⟩ [.tmp 4] fun v _ => v = .bool true) := by
  (((repeat' ((conv => whnf); all_goals first | assumption | with_reducible exact True.intro | with_reducible apply And.intro | (intro q; first | (exfalso; exact Bool.noConfusion q) | (exfalso; with_reducible exact q rfl) | (exfalso; contradiction) | subst q | (replace q : false = false := q; clear q) | (replace q : true = true := q; clear q) | (revert q; intro)) | ((with_reducible show _ = _); exact rfl))); all_goals try (conv => whnf); all_goals simp only [eq_self,true_iff,Bool.false_eq_true,false_iff,ed_eta,fl_eta,pt_eta,B_mk,Int.toNat_natCast] at *; all_goals (try contradiction); all_goals try (refine Chk.mk ?_; omega)))
theorem w14n (l : List Fl) (hl : ∀ f ∈ l,f.Ok) (ps : List Pt) (hps : ∀ p ∈ ps,POk p) (hW : Fw ps) (hA : ¬ A l ps = 0) :
    wp ⟨S1,(C14v A O Bk D Fw Fr Nm),77,0,fun _ => none⟩ (restOf (Try.f14.body.getD .skip)) ((13,.bool false) :: (12,.bool true) :: (4,.bool false) :: frm0 0 [.sl 1 l,.sl 4 ps]) [] (fin ⟨S1,(C14v A O Bk D Fw Fr Nm),77,0,fun _ => none⟩ [.tmp 4] fun v _ => v = .bool true) := by
  (((repeat' ((conv => whnf); all_goals first | assumption | with_reducible exact True.intro | with_reducible apply And.intro | (intro q; first | (exfalso; exact Bool.noConfusion q) | (exfalso; with_reducible exact q rfl) | (exfalso; contradiction) | subst q | (replace q : false = false := q; clear q) | (replace q : true = true := q; clear q) | (revert q; intro)) | ((with_reducible show _ = _); exact rfl))); all_goals try (conv => whnf); all_goals simp only [eq_self,true_iff,Bool.false_eq_true,false_iff,ed_eta,fl_eta,pt_eta,B_mk,Int.toNat_natCast] at *; all_goals (try contradiction); all_goals try (refine Chk.mk ?_; omega)))
  all_goals first
    | exact Chk.mk hW
    | (rename_i q hq _; obtain rfl := hq.2 rfl; rfl)
end
end Go.Sx

/-
  SX: the law FilesBack: the walk, with no difference.
-/
namespace Go.Sx
open Go Go.Ev Go.RowKit Go.Proofs
set_option maxRecDepth 100000
set_option maxHeartbeats 4000000
section
variable (A : List Fl → List Pt → Int) (O : List Fl → List Pt → List Fl) (Bk : List Fl → List Pt → List Pt) (D : List Fl → List Fl → List Pt) (Fw : List Pt → Prop) (Fr : List Fl → Prop) (Nm : List Fl → List Fl → Prop)
theorem w14e (l : List Fl) (hl : ∀ f ∈ l,f.Ok) (ps : List Pt) (hps : ∀ p ∈ ps,POk p) (hW : Fw ps) (hA : A l ps = 0) (hF : Fr l) (hF2 : Fr (O l ps)) (hN : Nm l (O l ps)) (hW1 : Fw (Bk l ps)) (a1 : A (O l ps) (Bk l ps) = 0) (o1 : O (O l ps) (Bk l ps) = l) (hd : D l (O l ps) = []) (a2 : A l [] = 0) (o2 : O l [] = O l ps) :
    wp ⟨S1,(C14v A O Bk D Fw Fr Nm),77,0,fun _ => none⟩ (restOf (Try.f14.body.getD .skip)) ((13,.bool false) :: (12,.bool true) :: (4,.bool false) :: frm0 0 [.sl 1 l,.sl 4 ps]) [] (fin ⟨S1,(C14v A O Bk D Fw Fr Nm),77,0,fun _ => none⟩ [.tmp 4] fun v _ => v = .bool true) := by
  (((repeat' ((conv => whnf); all_goals first | assumption | with_reducible exact True.intro | with_reducible apply And.intro | (intro q; first | (exfalso; exact Bool.noConfusion q) | (exfalso; with_reducible exact q rfl) | (exfalso; contradiction) | subst q | (replace q : false = false := q; clear q) | (replace q : true = true := q; clear q) | (revert q; intro)) | ((with_reducible show _ = _); exact rfl))); all_goals try (conv => whnf); all_goals simp only [eq_self,true_iff,Bool.false_eq_true,false_iff,ed_eta,fl_eta,pt_eta,B_mk,Int.toNat_natCast] at *; all_goals (try contradiction); all_goals try (refine Chk.mk ?_; omega)))
  all_goals first
    | exact Chk.mk hW
    | exact Chk.mk hW1
    | exact Chk.mk hF
    | exact Chk.mk hF2
    | exact Chk.mk hN
    | rfl
    | trace_state
end
end Go.Sx

/-
  SX: the law FilesBack: the walk, with a difference.
-/
namespace Go.Sx
open Go Go.Ev Go.RowKit Go.Proofs
set_option maxRecDepth 100000
set_option maxHeartbeats 4000000
section
variable (A : List Fl → List Pt → Int) (O : List Fl → List Pt → List Fl) (Bk : List Fl → List Pt → List Pt) (D : List Fl → List Fl → List Pt) (Fw : List Pt → Prop) (Fr : List Fl → Prop) (Nm : List Fl → List Fl → Prop)
theorem w14d (l : List Fl) (hl : ∀ f ∈ l,f.Ok) (ps : List Pt) (hps : ∀ p ∈ ps,POk p) (hW : Fw ps) (hA : A l ps = 0) (hF : Fr l) (hF2 : Fr (O l ps)) (hN : Nm l (O l ps)) (hW1 : Fw (Bk l ps)) (hW2 : Fw (D l (O l ps))) (a1 : A (O l ps) (Bk l ps) = 0) (o1 : O (O l ps) (Bk l ps) = l) (hd : ¬ D l (O l ps) = []) (a2 : A l (D l (O l ps)) = 0) (o2 : O l (D l (O l ps)) = O l ps) :
    wp ⟨S1,(C14v A O Bk D Fw Fr Nm),77,0,fun _ => none⟩ (restOf (Try.f14.body.getD .skip)) ((13,.bool false) :: (12,.bool true) :: (4,.bool false) :: frm0 0 [.sl 1 l,.sl 4 ps]) [] (fin ⟨S1,(C14v A O Bk D Fw Fr Nm),77,0,fun _ => none⟩ [.tmp 4] fun v _ => v = .bool true) := by
  (((repeat' ((conv => whnf); all_goals first | assumption | with_reducible exact True.intro | with_reducible apply And.intro | (intro q; first | (exfalso; exact Bool.noConfusion q) | (exfalso; with_reducible exact q rfl) | (exfalso; contradiction) | subst q | (replace q : false = false := q; clear q) | (replace q : true = true := q; clear q) | (revert q; intro)) | ((with_reducible show _ = _); exact rfl))); all_goals try (conv => whnf); all_goals simp only [eq_self,true_iff,Bool.false_eq_true,false_iff,ed_eta,fl_eta,pt_eta,B_mk,Int.toNat_natCast] at *; all_goals (try contradiction); all_goals try (refine Chk.mk ?_; omega)))
  all_goals first
    | exact Chk.mk hW
    | exact Chk.mk hW1
    | exact Chk.mk hW2
    | exact Chk.mk hF
    | exact Chk.mk hF2
    | exact Chk.mk hN
    | rfl
    | trace_state
end
end Go.Sx

/-
  SX: the law FilesBack: the facts, and the join.
-/
namespace Go.Sx
open Go Go.Ev Go.RowKit Go.Proofs
set_option maxRecDepth 100000
set_option maxHeartbeats 4000000
structure Backs (l : List Fl) (ps : List Pt) : Prop where
  F : FR l
  F2 : FR (outS l ps)
  N : Named l (outS l ps)
  W1 : Few (ps.map (backP l))
  W2 : Few (diffP l (outS l ps))
  a1 : appC (outS l ps) (ps.map (backP l)) = 0
  a2 : appC l (diffP l (outS l ps)) = 0
  o1 : outS (outS l ps) (ps.map (backP l)) = l
  o2 : outS l (diffP l (outS l ps)) = outS l ps
theorem backs {l : List Fl} {ps : List Pt} (hW : Few ps) (hA : appC l ps = 0) : Backs l ps := by
  obtain ⟨hF,hm,hb⟩ := appC0 hA
  have hP : FewP ps := ⟨fun p hp => (hW.2 p hp).2.2,fun p hp => (hW.2 p hp).1⟩
  have hF2 := out_FR hF hm hb
  have hN : Named l (outS l ps) := ⟨(out_len ..).symm,fun k f g hf hg => by
    have h := congrArg (·[k]?) (out_names l ps l)
    simp only [List.getElem?_map] at h
    rw [show (ps.foldl (outStep l) l)[k]? = some g from hg,hf] at h
    exact (Option.some.inj h).symm⟩
  obtain ⟨b1,b2,b3⟩ := back_all hF hm hb hP
  obtain ⟨d1,d2,d3⟩ := diff_all hF hF2 hN
  obtain ⟨e1,e2⟩ := diff_few hF hF2 hN
  refine ⟨hF,hF2,hN,⟨by rw [List.length_map]; exact hW.1,fun q hq => ?_⟩,⟨by omega,fun q hq => ?_⟩,app0 hF2 b1 b2,app0 hF d1 d2,b3,d3⟩
  · obtain ⟨p,hp,rfl⟩ := List.mem_map.1 hq
    obtain ⟨k,hk⟩ := List.mem_iff_getElem?.1 hp
    have h1 := (mayAt0 (mayN_at hm (List.getElem?_eq_some_iff.1 hk).1 hk)).1
    obtain ⟨f,hf,_⟩ := place_spec h1
    obtain ⟨_,_,_,g3,g4,_⟩ := back_one hF hm hP hk hf
    refine ⟨?_,(hW.2 p hp).2.1,?_⟩
    · show (backS (textOf l p.nm) p.es).length ≤ 41
      rw [textOf_at hf]; exact g4
    · show sumT (backS (textOf l p.nm) p.es) ≤ 40000
      rw [textOf_at hf]; omega
  · obtain ⟨h1,h2,f,hf,h3⟩ := e2 q hq
    obtain ⟨i,hi⟩ := List.mem_iff_getElem?.1 hf
    have := (hF.2.2 i f hi).1.2.1
    exact ⟨h1,by rw [h3]; omega,by omega⟩
theorem k61b : SpecOk R1.T S1 61 (sp61v appC outS Few) := by
  intro H args K h; unfold sp61v at h; dsimp only at h; split at h
  · exact k61a _ _ _ h
  · rename_i l
    exact CallOk.nilS2 (k61a [] [.sl 1 l,.sl 4 []] K (show Chk (Few []) ∧ _ from ⟨Chk.mk ⟨Nat.zero_le _,fun p hp => by cases hp⟩,h⟩))
  · exact h.elim
theorem k57w : SpecOk R1.T S1 57 (sp57v Few) := by
  intro H args K h; unfold sp57v at h; dsimp only at h; split at h
  · exact k57 _ _ _ ⟨h.1,fun q hq => by
      cases q with
      | true => exact h.2.1
      | false => exact h.2.2 (hq rfl)⟩
  · exact h.elim
noncomputable abbrev C14 := C14v appC outS (fun l ps => ps.map (backP l)) diffP Few FR Named
theorem C14_ok : COk C14 := addC_ok k40 (addC_ok k57w (addC_ok (lifted_ok sys1.1 k61b) (addC_ok k63 (addC_ok k41 (addC_ok k46e C0_ok)))))
theorem walk14 (l : List Fl) (hl : ∀ f ∈ l,f.Ok) (ps : List Pt) (hps : ∀ p ∈ ps,POk p) :
    wp ⟨S1,C14,77,0,fun _ => none⟩ (restOf (Try.f14.body.getD .skip)) ((13,.bool false) :: (12,.bool true) :: (4,.bool false) :: frm0 0 [.sl 1 l,.sl 4 ps]) [] (fin ⟨S1,C14,77,0,fun _ => none⟩ [.tmp 4] fun v _ => v = .bool true) := by
  by_cases hW : Few ps
  · by_cases hA : appC l ps = 0
    · obtain ⟨hF,hF2,hN,hW1,hW2,a1,a2,o1,o2⟩ := backs hW hA
      by_cases hd : diffP l (outS l ps) = []
      · rw [hd] at a2 o2
        exact w14e _ _ _ _ _ _ _ l hl ps hps hW hA hF hF2 hN hW1 a1 o1 hd a2 o2
      · exact w14d _ _ _ _ _ _ _ l hl ps hps hW hA hF hF2 hN hW1 hW2 a1 o1 hd a2 o2
    · exact w14n _ _ _ _ _ _ _ l hl ps hps hW hA
  · exact w14x _ _ _ _ _ _ _ l hl ps hps hW
end Go.Sx
