/-
  SX: loops over functions: the iterator is walked in its loop's place.
-/
import Derived.Test.YtelpkdjibjddlaaEvC0
set_option linter.unusedSimpArgs false
set_option linter.unusedVariables false
namespace Go.Sx
open Go Go.Ev Go.RowKit Go.Proofs
set_option maxRecDepth 100000
section
variable {U : Nat → Type} {T : Tab} {S : Sys U}
def addY (i : Nat) (hs : Spec U) (C : FuncId → Option (Spec U)) : FuncId → Option (Spec U) := fun g => bif Nat.beq g (Nat.add YB i) then some hs else C g
noncomputable def inl (S : Sys U) (C : FuncId → Option (Spec U)) (nt : Nat) (body : Code) (rs : List ResultVar) : Spec U → Nat → Spec U := fun hs i => ⟨true,false,fun H args K => forceI i fun i => forceI (lenH H) fun m => forceL force args fun args => bif Nat.ble (lenL args) nt then wp ⟨S,addY i hs C,nt,m,fun _ => none⟩ body (frm0 0 args) H (finO ⟨S,addY i hs C,nt,m,fun _ => none⟩ rs K) else False⟩
theorem addY_ok {C : FuncId → Option (Spec U)} (hC : CallsOk T S C fun _ => True) {hs : Spec U} {i : Nat} {R : Env U → Prop} (hl : ∀ X X',Later X X' → R X → R X') (hr : RndOk T S R hs i) : CallsOk T S (addY i hs C) R := by
  refine ⟨hl,fun g sp hg => ?_⟩
  unfold addY at hg
  cases hb : Nat.beq g (Nat.add YB i) with
  | true =>
    rw [hb] at hg; cases hg
    have := beq_nat hb; subst this
    refine ⟨fun h => absurd h (Nat.not_lt.2 (Nat.le_add_right _ _)),fun j e => ?_⟩
    have : i = j := Nat.add_left_cancel e
    subst this; exact hr
  | false =>
    rw [hb] at hg
    obtain ⟨h1,h2⟩ := hC.2 g sp hg
    exact ⟨h1,fun j e H args K hrun X vals hH hrel _ hd s e1 e2 N hN => h2 j e H args K hrun X vals hH hrel trivial hd s e1 e2 N hN⟩
theorem inl_ok (ok : SysOk T S) (sz : ∀ e,S.size e < END) {C : FuncId → Option (Spec U)} (hC : CallsOk T S C fun _ => True) {f : FuncId} {nt : Nat} {body : Code} {rs : List ResultVar} (hF : T.fn f = some ⟨nt,body,rs⟩) (hs : Spec U) (i : Nat) (R : Env U → Prop) (_ : hs.wr = true) (hl : ∀ X X',Later X X' → R X → R X') (hrn : RndOk T S R hs i)
    (H : Hp U) (args : List (SV U)) (K : SV U → Hp U → Prop) (hrun : (inl S C nt body rs hs i).run H args K) (X : Env U) (vals : List Value) (hH : X.H = H) (hr : HRel S X) (hRX : R X) (hd : DenL S X args vals) (s : St) (h1 : s.t = X.t) (h2 : s.next = X.n) :
    EndsCall T f vals s fun v s' => ∃ sv H' ns' d,K sv H' ∧ Den S ⟨X.wb,X.ns ++ ns',H',s'.t,s'.next⟩ sv v ∧ Step S X s ⟨X.wb,X.ns ++ ns',H',s'.t,s'.next⟩ s' d := by
  unfold inl at hrun
  dsimp only at hrun
  rw [forceI_eq,forceI_eq,forceL_eq force_eq] at hrun
  obtain ⟨hn,h⟩ := bif_true hrun
  have hn := Nat.le_of_ble_eq_true hn
  rw [lenL_eq] at hn
  generalize hp : (⟨S,addY i hs C,nt,lenH H,fun _ => none⟩ : Par U) = p at h
  have hpS : p.S = S := by rw [← hp]
  have hpn : p.nt = nt := by rw [← hp]
  have hpm : p.m = H.length := by rw [← hp]; exact lenH_eq _
  subst hpS hpn
  have hpC : CallsOk T p.S p.C R := by rw [← hp]; exact addY_ok hC hl hrn
  have hpI : ItsOk T p.S p.I := by
    have : p.I = fun _ => none := by rw [← hp]
    rw [this]; intro g it h; cases h
  have P : ParR T p R X s := ⟨ok,sz,hpC,hpI,fun X' s' a1 a2 a3 a4 => by
    rw [hpm,← hH] at a4
    obtain ⟨_,_,_,st,_⟩ := Tr.end hr h1 h2 a4 a2 a3 a1
    exact hl _ _ st.later hRX⟩
  clear hp
  refine EndsCall.of hF ?_
  have hR : Rl p.S p.nt [] X (frm0 0 args) ⟨vals ++ List.replicate (p.nt - vals.length) Go.undef,[]⟩ s := ⟨h1.symm,h2.symm,hr,frm0_ok hd _,by have := hd.len; simp; omega,rfl,.nil,fun _ h => by cases h⟩
  have hT : Tr p.m X s X s := by rw [hpm,← hH]; exact Tr.refl hr s
  rw [← hH] at h
  refine (wp_sound body P (.inl rfl) hR hT h).mono fun e fr s1 ⟨dq1,F,Y1,k1,kR,kT,kq,_⟩ => ?_
  obtain ⟨s2,Y,yH,hfin,k2,k3⟩ := done_of kR kT fun D hD => (kq D hD).resolve_left (by simp)
  rw [← yH] at k1
  have he : isExit e = false := by cases e with
    | exit i => exact k1.elim
    | _ => rfl
  have k1 : resS p.S F Y.H rs fun l => ∃ v0 H0,covers p.m [(0,v0)] H0 [(0,valS l)] Y.H ∧ K v0 H0 := by
    cases e with
    | exit i => cases he
    | _ => exact k1
  obtain ⟨l,vals',⟨v0,H0,c1,c2⟩,g3,g4⟩ := resS_sound ok k2.rel k2.frm k1
  refine ⟨_,s2,finish_of he (by rw [kR.dfs]; exact hfin) (g4 s2 k2.t.symm),?_⟩
  have hR1 : Rl p.S 1 [] Y [(0,valS l)] ⟨[valOf vals'],[]⟩ s2 := by
    refine ⟨k2.t,k2.n,k2.rel,fun t => ?_,rfl,rfl,.nil,fun _ h => by cases h⟩
    unfold get
    cases hb : Nat.beq t 0 with
    | true => have := beq_nat hb; subst this; exact valS_den g3
    | false => exact .undef .nil
  obtain ⟨Z,z1,z2,z3⟩ := covers_sound ok hR1 k3 c1
  rw [hpm,← hH] at z3
  obtain ⟨ns',d,e1,e2,_⟩ := Tr.end hr h1 h2 z3 z2.t z2.n z2.rel
  have hd0 := z2.frm 0
  rw [e1] at hd0 e2
  rw [z1] at hd0 e2
  exact ⟨v0,H0,ns',d,c2,hd0,e2⟩
def forceR : Ren → (Ren → Prop) → Prop
  | [],K => K []
  | (a,b) :: σ,K => forceI a fun a => forceI b fun b => forceR σ fun σ => K ((a,b) :: σ)
theorem forceR_eq : ∀ (σ : Ren) (K : Ren → Prop),forceR σ K = K σ
  | [],K => rfl
  | (a,b) :: σ,K => by unfold forceR; rw [forceI_eq,forceI_eq,forceR_eq]
def pairN (H : Hp U) : Hp U → Nat → Ren → (Ren → Prop) → Prop
  | [],_,σ,K => K σ
  | c :: H0,i,σ,K => match c,conAt H (ren σ i) with
    | .cells _ _ vs,.cells _ _ ws => forceR (σ ++ pairL pair2 vs ws) fun σ => pairN H H0 (Nat.succ i) σ K
    | _,_ => pairN H H0 (Nat.succ i) σ K
theorem pairN_eq {H : Hp U} : ∀ (H0 : Hp U) (i : Nat) (σ : Ren) (K : Ren → Prop),pairN H H0 i σ K = K (pairH σ H i H0)
  | [],i,σ,K => rfl
  | c :: H0,i,σ,K => by
    unfold pairN pairH
    cases c <;> cases conAt H (ren σ i) <;> simp only [forceR_eq,pairN_eq]
def coversN (m : Nat) (F0 : Frm U) (H0 : Hp U) (F : Frm U) (H : Hp U) : Prop := adopt H0 F0 F H fun F H => forceR (pairF F0 F) fun σ => pairN H H0 0 σ fun σ => covers1 m F0 H0 F H σ
theorem covers_n {m : Nat} {F0 : Frm U} {H0 : Hp U} {F : Frm U} {H : Hp U} (h : coversN m F0 H0 F H) : covers m F0 H0 F H := by
  unfold coversN at h
  simp only [forceR_eq,pairN_eq] at h
  exact h
end
abbrev Its (U : Nat → Type) := FuncId → Option (Spec U → Nat → Spec U)
def I0 : Its U1 := fun _ => none
def addI (f : FuncId) (it : Spec U1 → Nat → Spec U1) (I : Its U1) : Its U1 := fun g => bif Nat.beq g f then some it else I g
abbrev IOk (I : Its U1) : Prop := ItsOk R1.T S1 I
theorem I0_ok : IOk I0 := fun g it h => by cases h
theorem addI_ok {C : FuncId → Option (Spec U1)} (hC : COk C) {f : FuncId} {nt : Nat} {body : Code} {rs : List ResultVar} (hF : R1.T.fn f = some ⟨nt,body,rs⟩) {I : Its U1} (hI : IOk I) : IOk (addI f (inl S1 C nt body rs) I) := by
  intro g it hg
  unfold addI at hg
  cases hb : Nat.beq g f with
  | true =>
    rw [hb] at hg; cases hg
    have := beq_nat hb; subst this
    exact inl_ok sys1.1 sys1.2 hC hF
  | false => rw [hb] at hg; exact hI g it hg
theorem parI_ok {C : FuncId → Option (Spec U1)} (hC : COk C) {I : Its U1} (hI : IOk I) (nt m : Nat) : ParOk R1.T ⟨S1,C,nt,m,I⟩ := ⟨sys1.1,sys1.2,hC,hI⟩
theorem stI {C : FuncId → Option (Spec U1)} (hC : COk C) {I : Its U1} (hI : IOk I) {f : FuncId} {nt : Nat} {body : Code} {rs : List ResultVar} {args : List (SV U1)} {H : Hp U1} {K : SV U1 → Hp U1 → Prop} (hF : R1.T.fn f = some ⟨nt,body,rs⟩) (hn : Nat.ble args.length nt = true) (ha : args.all (below 0) = true)
    (h : wp ⟨S1,C,nt,0,I⟩ body (frm0 0 args) [] (fin ⟨S1,C,nt,0,I⟩ rs fun v _ => K v H)) {wr : Bool} : CallOk R1.T S1 wr f H args K := CallOk.pure (p := ⟨S1,C,nt,0,I⟩) (parI_ok hC hI _ _) hF rfl (Nat.le_of_ble_eq_true hn) ha h
def forced (sp : Spec U1) : Spec U1 := ⟨sp.wr,sp.own,fun H args K => sp.run H args fun r H' => forceH H' fun H' => force r fun r => K r H'⟩
def addNF : List Nat → List Nat → (List Nat → Prop) → Prop
  | [],js,K => K js
  | i :: l,js,K => forceN (bif memN js i then js else js ++ [i]) fun js => addNF l js K
theorem addNF_eq : ∀ (l js : List Nat) (K : List Nat → Prop),addNF l js K = K (addN l js)
  | [],js,K => rfl
  | i :: l,js,K => by unfold addNF addN; rw [forceN_eq,addNF_eq]
def closeNF (H : Hp U1) : Nat → List Nat → (List Nat → Prop) → Prop
  | 0,js,K => K js
  | n + 1,js,K => addNF (js.flatMap fun j => idsC (conAt H j)) js fun js => closeNF H n js K
theorem closeNF_eq {H : Hp U1} : ∀ (n : Nat) (js : List Nat) (K : List Nat → Prop),closeNF H n js K = K (closeN H n js)
  | 0,js,K => rfl
  | n + 1,js,K => by unfold closeNF closeN; rw [addNF_eq,closeNF_eq]
def liftedN (sp : Spec U1) : Spec U1 := ⟨sp.wr,sp.own,fun H args K => forceH H fun H => forceL force args fun args => addNF (args.flatMap ids3) [] fun js => closeNF H 3 js fun js => bif nodupB js && allLt H.length js then forceH (locH H js) fun L => forceL force (args.map (down3 js)) fun xs => sp.run L xs (fun r H1 => forceH (liftH H js H1) fun H' => force (up3 H1 js.length (atN js H.length) r) fun r => K r H') else False⟩
theorem liftedN_ok {f : FuncId} {sp : Spec U1} (h : SpecOk R1.T S1 f (lifted sp)) : SpecOk R1.T S1 f (liftedN sp) := fun H args K hr => h H args K (by
  unfold liftedN at hr
  unfold lifted
  simp only [forceH_eq,force_eq,forceL_eq force_eq,addNF_eq,closeNF_eq,forceN_eq] at hr ⊢
  exact hr)
def NilTo (c : Nat) (K : SV U1 → Hp U1 → Prop) : SV U1 → Hp U1 → Prop := fun v H => match v with
  | .nilS => K (.sl c []) H
  | .tup [.nilS,x] => K (.tup [.sl c [],x]) H
  | v => K v H
theorem CallOk.resNil {f : FuncId} {H : Hp U1} {args : List (SV U1)} {K : SV U1 → Hp U1 → Prop} {wr : Bool} (c : Nat) (h : CallOk R1.T S1 wr f H args (NilTo c K)) : CallOk R1.T S1 wr f H args K := by
  intro X vals hH hr hd s h1 h2
  refine EndsCall.mono (h X vals hH hr hd s h1 h2) fun v s' ⟨sv,H',ns',d,k1,k2,k3⟩ => ?_
  unfold NilTo at k1
  split at k1
  · exact ⟨_,H',ns',d,k1,nilS_den k2,k3⟩
  · obtain ⟨vs,rfl,d'⟩ := tup_inv k2
    exact ⟨_,H',ns',d,k1,.tup (nilS_den d') .nil,k3⟩
  · exact ⟨_,H',ns',d,k1,k2,k3⟩
end Go.Sx

/-
  SX: where bytes go: runs, Came, Grow, Spans, Kept, the text of a source.
-/
namespace Go.Sx
open Go Go.Ev Go.RowKit Go.Proofs
set_option maxRecDepth 100000
set_option maxHeartbeats 4000000
def sp65 : Spec U1 := ⟨false,false,fun H args K => match args with
  | [.sl 0 l,.int .i64 n] => Chk (l.length ≤ 1000) ∧ K (.sl 2 (runsS l n)) H
  | _ => False⟩
theorem k65 : SpecOk R1.T S1 65 sp65 := by
  intro H args K h; unfold sp65 at h; dsimp only at h; split at h
  · rename_i l n
    obtain ⟨hl,h⟩ := h
    replace hl := hl.out
    refine st C0_ok (by kernel_rfl : R1.T.fn 65 = some ⟨45,Try.f65.body.getD .skip,[.tmp 4]⟩) rfl rfl ?_
    (((repeat' ((conv => whnf); all_goals first | assumption | with_reducible exact True.intro | with_reducible apply And.intro | (intro q; first | (exfalso; exact Bool.noConfusion q) | (exfalso; with_reducible exact q rfl) | subst q | (replace q : false = false := q; clear q) | (replace q : true = true := q; clear q) | (revert q; intro)) | ((with_reducible show _ = _); exact rfl))); all_goals try (conv => whnf); all_goals simp only [eq_self,true_iff,Bool.false_eq_true,false_iff,ed_eta,fl_eta,pt_eta,B_mk,Int.toNat_natCast] at *; all_goals (try contradiction); all_goals try (refine Chk.mk ?_; omega)))
    refine ⟨Nat,fun i => ([(0,.sl 0 l),(1,.int .i64 n),(10,.sl 0 l),(11,.int .i64 l.length),(12,.int .i64 i),(5,.ol 0),(6,.int .i64 (runF (l.take i)).2.1),(7,.int .i64 (runF (l.take i)).2.2)],[.list false false 101 2 (runF (l.take i)).1]),fun i => i ≤ l.length,fun i => l.length - i,0,Nat.zero_le _,?_,?_⟩
    · (repeat' ((conv => whnf); all_goals first | assumption | with_reducible exact True.intro | with_reducible apply And.intro | ((with_reducible show _ = _); exact rfl) | omega | trivial))
    · intro i hi
      have hrl := runF_len' hi
      (((repeat' ((conv => whnf); all_goals first | assumption | with_reducible exact True.intro | with_reducible apply And.intro | (intro q; first | (exfalso; exact Bool.noConfusion q) | (exfalso; with_reducible exact q rfl) | subst q | (replace q : false = false := q; clear q) | (replace q : true = true := q; clear q) | (revert q; intro)) | ((with_reducible show _ = _); exact rfl))); all_goals try (conv => whnf); all_goals simp only [eq_self,true_iff,Bool.false_eq_true,false_iff,ed_eta,fl_eta,pt_eta,B_mk,Int.toNat_natCast] at *; all_goals (try contradiction); all_goals try (refine Chk.mk ?_; omega)))
      · exact Chk.mk (Nat.le_trans (Nat.mul_le_mul_right 24 (Nat.succ_le_succ (Nat.le_of_eq hrl))) (by clear h; omega))
      · rename_i e he _ _ _ hw _
        rw [hw (by omega)]
        refine ⟨i + 1,by omega,by omega,?_⟩
        rw [runF_step he]
        (repeat' ((conv => whnf); all_goals first | assumption | with_reducible exact True.intro | with_reducible apply And.intro | ((with_reducible show _ = _); exact rfl) | omega | trivial))
      · exact Chk.mk (Nat.le_trans (Nat.mul_le_mul_right 24 (Nat.succ_le_succ (Nat.le_of_eq hrl))) (by clear h; omega))
      · have : i = l.length := by omega
        subst this
        rw [List.take_length] at *
        exact h
  · exact h.elim
def sp18 : Spec U1 := ⟨false,false,fun H args K => match args with
  | [.sl 0 l,.int .i64 n,.int .i64 q] => Chk (l.length ≤ 1000) ∧ Chk (Right l n) ∧ ((caS l n q).2 = 0 → K (.tup [.int .i64 (caS l n q).1,.nilI]) H) ∧ (¬ (caS l n q).2 = 0 → K (.tup [.int .i64 (caS l n q).1,.iface 37 (.int .i64 (caS l n q).2)]) H)
  | _ => False⟩
theorem k18 : SpecOk R1.T S1 18 sp18 := by
  intro H args K h; unfold sp18 at h; dsimp only at h; split at h
  · rename_i l n q
    obtain ⟨hl,hR,h1,h2⟩ := h
    replace hl := hl.out
    replace hR := hR.out
    refine st (addC_ok j35 (addC_ok k65 C0_ok)) (by kernel_rfl : R1.T.fn 18 = some ⟨45,Try.f18.body.getD .skip,[.tmp 6,.tmp 7]⟩) rfl rfl ?_
    (((repeat' ((conv => whnf); all_goals first | assumption | with_reducible exact True.intro | with_reducible apply And.intro | (intro q; first | (exfalso; exact Bool.noConfusion q) | (exfalso; with_reducible exact q rfl) | subst q | (replace q : false = false := q; clear q) | (replace q : true = true := q; clear q) | (revert q; intro)) | ((with_reducible show _ = _); exact rfl))); all_goals try (conv => whnf); all_goals simp only [eq_self,true_iff,Bool.false_eq_true,false_iff,ed_eta,fl_eta,pt_eta,B_mk,Int.toNat_natCast] at *; all_goals (try contradiction); all_goals try (refine Chk.mk ?_; omega)))
    refine ⟨Nat,fun i => ([(0,.sl 0 l),(1,.int .i64 n),(2,.int .i64 q),(17,.sl 2 (runsS l n)),(18,.int .i64 (runsS l n).length),(19,.int .i64 i)],[]),fun i => i ≤ (runsS l n).length ∧ NoB (InC q) (runsS l n) i,fun i => (runsS l n).length - i,0,⟨Nat.zero_le _,.zero⟩,?_,?_⟩
    · (repeat' ((conv => whnf); all_goals first | assumption | with_reducible exact True.intro | with_reducible apply And.intro | ((with_reducible show _ = _); exact rfl) | omega | trivial))
    · intro i ⟨hi,ho⟩
      (((repeat' ((conv => whnf); all_goals first | assumption | with_reducible exact True.intro | with_reducible apply And.intro | (intro q; first | (exfalso; exact Bool.noConfusion q) | (exfalso; with_reducible exact q rfl) | subst q | (replace q : false = false := q; clear q) | (replace q : true = true := q; clear q) | (revert q; intro)) | ((with_reducible show _ = _); exact rfl))); all_goals try (conv => whnf); all_goals simp only [eq_self,true_iff,Bool.false_eq_true,false_iff,ed_eta,fl_eta,pt_eta,B_mk,Int.toNat_natCast] at *; all_goals (try contradiction); all_goals try (refine Chk.mk ?_; omega)))
      · rename_i r hr _ _ _ _ h3 h4
        have hc := caS_at ho hr ⟨h3,h4⟩
        rw [hc] at h1
        exact h1 rfl
      · rename_i r hr _ _ hw _ h3 h4
        rw [hw (by omega)]
        refine ⟨i + 1,by omega,⟨by omega,ho.step hr fun hp => h4 hp.2⟩,?_⟩
        (repeat' ((conv => whnf); all_goals first | assumption | with_reducible exact True.intro | with_reducible apply And.intro | ((with_reducible show _ = _); exact rfl) | omega | trivial))
      · rename_i r hr _ hw _ h3
        rw [hw (by omega)]
        refine ⟨i + 1,by omega,⟨by omega,ho.step hr fun hp => h3 hp.1⟩,?_⟩
        (repeat' ((conv => whnf); all_goals first | assumption | with_reducible exact True.intro | with_reducible apply And.intro | ((with_reducible show _ = _); exact rfl) | omega | trivial))
      · have hc := caS_none ho (by omega)
        rw [hc] at h2
        exact h2 (by decide)
  · exact h.elim
def sp21 : Spec U1 := ⟨false,false,fun H args K => match args with
  | [.sl 0 l,.int .i64 n] => Chk (l.length ≤ 1000) ∧ (Right l n → K (.tup [.sl 3 (spansS l),.nilI]) H) ∧ (¬ Right l n → K (.tup [.sl 3 [],.iface 37 (.int .i64 2)]) H)
  | _ => False⟩
theorem k21 : SpecOk R1.T S1 21 sp21 := by
  intro H args K h; unfold sp21 at h; dsimp only at h; split at h
  · rename_i l n
    obtain ⟨hl,h1,h2⟩ := h
    replace hl := hl.out
    refine CallOk.resNil 3 ?_
    refine st (addC_ok j35 C0_ok) (by kernel_rfl : R1.T.fn 21 = some ⟨50,Try.f21.body.getD .skip,[.tmp 4,.tmp 5]⟩) rfl rfl ?_
    (((repeat' ((conv => whnf); all_goals first | assumption | with_reducible exact True.intro | with_reducible apply And.intro | (intro q; first | (exfalso; exact Bool.noConfusion q) | (exfalso; with_reducible exact q rfl) | subst q | (replace q : false = false := q; clear q) | (replace q : true = true := q; clear q) | (revert q; intro)) | ((with_reducible show _ = _); exact rfl))); all_goals try (conv => whnf); all_goals simp only [eq_self,true_iff,Bool.false_eq_true,false_iff,ed_eta,fl_eta,pt_eta,B_mk,Int.toNat_natCast] at *; all_goals (try contradiction); all_goals try (refine Chk.mk ?_; omega)))
    · refine ⟨Nat,fun i => ([(4,.nilS),(5,.nilI),(15,.sl 0 l),(16,.int .i64 l.length),(17,.int .i64 i),(6,.ol 0),(7,.int .i64 (spanF (l.take i)).2)],[.list false false 39 3 (spanF (l.take i)).1]),fun i => i ≤ l.length,fun i => l.length - i,0,Nat.zero_le _,?_,?_⟩
      · (repeat' ((conv => whnf); all_goals first | assumption | with_reducible exact True.intro | with_reducible apply And.intro | ((with_reducible show _ = _); exact rfl) | omega | trivial))
      · intro i hi
        have hrl := spanF_len' hi
        (((repeat' ((conv => whnf); all_goals first | assumption | with_reducible exact True.intro | with_reducible apply And.intro | (intro q; first | (exfalso; exact Bool.noConfusion q) | (exfalso; with_reducible exact q rfl) | subst q | (replace q : false = false := q; clear q) | (replace q : true = true := q; clear q) | (revert q; intro)) | ((with_reducible show _ = _); exact rfl))); all_goals try (conv => whnf); all_goals simp only [eq_self,true_iff,Bool.false_eq_true,false_iff,ed_eta,fl_eta,pt_eta,B_mk,Int.toNat_natCast] at *; all_goals (try contradiction); all_goals try (refine Chk.mk ?_; omega)))
        · exact Chk.mk (Nat.le_trans (Nat.mul_le_mul_right 16 (Nat.succ_le_succ (Nat.le_of_eq hrl))) (by clear h1 h2; omega))
        · rename_i e he _ _ _ _ _ _ hw _
          rw [hw (by omega)]
          refine ⟨i + 1,by omega,by omega,?_⟩
          rw [spanF_step he]
          (repeat' ((conv => whnf); all_goals first | assumption | with_reducible exact True.intro | with_reducible apply And.intro | ((with_reducible show _ = _); exact rfl) | omega | trivial))
        · have : i = l.length := by omega
          subst this
          rw [List.take_length] at *
          exact h1 (by assumption)
    · exact h2 (by assumption)
  · exact h.elim
end Go.Sx

/-
  SX: the text of a source.
-/
namespace Go.Sx
open Go Go.Ev Go.RowKit Go.Proofs
set_option maxRecDepth 100000
set_option maxHeartbeats 4000000
def piece (x y : Int) (e : Ed) (p : Sp) : List UInt8 := if max x p.a < min y p.b then ((B e.tx).drop (max x p.a - p.a).toNat).take ((min y p.b - p.a).toNat - (max x p.a - p.a).toNat) else []
def textF (x y : Int) (l : List Ed) (sp : List Sp) : List UInt8 := (List.zipWith (piece x y) l sp).flatten
theorem textF_step {x y : Int} {l : List Ed} {sp : List Sp} (hl : l.length = sp.length) {i : Nat} {e : Ed} {p : Sp} (he : l[i]? = some e) (hp : sp[i]? = some p) : textF x y (l.take (i + 1)) (sp.take (i + 1)) = textF x y (l.take i) (sp.take i) ++ piece x y e p := by
  unfold textF
  rw [List.take_add_one,he,List.take_add_one,hp,List.zipWith_append (by simp [hl])]
  simp
structure SpanOk (l : List Ed) (sp : List Sp) : Prop where
  len : l.length = sp.length
  le : l.length ≤ 1000
  sum : sumT l ≤ 1000000
  ok : ∀ (i : Nat) (e : Ed) (p : Sp),l[i]? = some e → sp[i]? = some p → p.b = p.a + ((B e.tx).length : Nat) ∧ 0 ≤ p.a ∧ p.b ≤ 2000000
theorem mmT (x a : Int) : mm true x a = max x a := by show (if x < a then a else x) = _; split <;> omega
theorem mmF (x a : Int) : mm false x a = min x a := by show (if a < x then a else x) = _; split <;> omega
theorem piece_len (x y : Int) (e : Ed) (p : Sp) : (piece x y e p).length ≤ (B e.tx).length := by
  unfold piece; split
  · rw [List.length_take,List.length_drop]; omega
  · exact Nat.zero_le _
theorem textF_len {x y : Int} {l : List Ed} {sp : List Sp} (hl : l.length = sp.length) : ∀ {i : Nat},i ≤ l.length → (textF x y (l.take i) (sp.take i)).length ≤ sumT (l.take i)
  | 0,_ => Nat.zero_le _
  | i + 1,h => by
    obtain ⟨e,he⟩ := ex_at (l := l) (i := i) (by omega)
    obtain ⟨p,hp⟩ := ex_at (l := sp) (i := i) (by omega)
    rw [textF_step hl he hp,sumT_step he,List.length_append]
    have := textF_len (x := x) (y := y) hl (i := i) (by omega)
    have := piece_len x y e p
    omega
def sp99 : Spec U1 := ⟨false,false,fun H args K => match args with
  | [.agg [.sl 0 l,.sl 3 sp],.int .i64 x,.int .i64 y] => Chk (SpanOk l sp) ∧ K (.str (textF x y l sp)) H
  | _ => False⟩
theorem k99 : SpecOk R1.T S1 99 sp99 := by
  intro H args K h; unfold sp99 at h; dsimp only at h; split at h
  · rename_i l sp x y
    obtain ⟨hs,h⟩ := h
    replace hs := hs.out
    have hl1 := hs.len
    have hl2 := hs.le
    have hl3 := hs.sum
    refine st C0_ok (by kernel_rfl : R1.T.fn 99 = some ⟨50,Try.f99.body.getD .skip,[.tmp 6]⟩) rfl rfl ?_
    (((repeat' ((conv => whnf); all_goals first | assumption | with_reducible exact True.intro | with_reducible apply And.intro | (intro q; first | (exfalso; exact Bool.noConfusion q) | (exfalso; with_reducible exact q rfl) | subst q | (replace q : false = false := q; clear q) | (replace q : true = true := q; clear q) | (revert q; intro)) | ((with_reducible show _ = _); exact rfl))); all_goals try (conv => whnf); all_goals simp only [eq_self,true_iff,Bool.false_eq_true,false_iff,ed_eta,fl_eta,pt_eta,B_mk,Int.toNat_natCast] at *; all_goals (try contradiction); all_goals try (refine Chk.mk ?_; omega)))
    refine ⟨Nat,fun i => ([(1,.int .i64 x),(2,.int .i64 y),(3,.ptr 0 0),(6,.str []),(7,.str (textF x y (l.take i) (sp.take i))),(13,.sl 3 sp),(14,.int .i64 sp.length),(15,.int .i64 i)],[.cells false 127 [.sl 0 l,.sl 3 sp]]),fun i => i ≤ sp.length,fun i => sp.length - i,0,Nat.zero_le _,?_,?_⟩
    · (repeat' ((conv => whnf); all_goals first | assumption | with_reducible exact True.intro | with_reducible apply And.intro | ((with_reducible show _ = _); exact rfl) | omega | trivial))
    · intro i hi
      have ht := textF_len (x := x) (y := y) hl1 (i := i) (by omega)
      have ht2 := sumT_le l i
      (((repeat' ((conv => whnf); all_goals first | assumption | with_reducible exact True.intro | with_reducible apply And.intro | (intro q; first | (exfalso; exact Bool.noConfusion q) | (exfalso; with_reducible exact q rfl) | subst q | (replace q : false = false := q; clear q) | (replace q : true = true := q; clear q) | (revert q; intro)) | ((with_reducible show _ = _); exact rfl))); all_goals try (conv => whnf); all_goals simp only [eq_self,true_iff,Bool.false_eq_true,false_iff,ed_eta,fl_eta,pt_eta,B_mk,Int.toNat_natCast] at *; all_goals (try contradiction); all_goals try (refine Chk.mk ?_; omega)))
      · rename_i p hp e he h1 h2 _ hlt
        obtain ⟨g1,g2,g3⟩ := hs.ok i e p he hp
        rw [mmT,mmF] at hlt
        rw [mmT] at h1
        rw [mmF] at h2
        refine Chk.mk ?_
        rw [mmT,mmF,h1 (by omega),h2 (by omega)]
        omega
      · rename_i p hp e he _ _ _ _
        have := sumT_get he
        refine Chk.mk ?_
        rw [List.length_take,List.length_drop]
        omega
      · rename_i p hp e he h1 h2 hw _ hlt
        rw [hw (by omega)]
        refine ⟨i + 1,by omega,by omega,?_⟩
        obtain ⟨g1,g2,g3⟩ := hs.ok i e p he hp
        rw [mmT,mmF] at hlt
        rw [mmT] at h1
        rw [mmF] at h2
        rw [textF_step hl1 he hp,show piece x y e p = List.take ((wr IntKind.i64 (mm false y p.b - p.a)).toNat - (wr IntKind.i64 (mm true x p.a - p.a)).toNat) (List.drop (wr IntKind.i64 (mm true x p.a - p.a)).toNat (B e.tx)) from by
          unfold piece; rw [if_pos hlt,mmT,mmF,h1 (by omega),h2 (by omega)]]
        (repeat' ((conv => whnf); all_goals first | assumption | with_reducible exact True.intro | with_reducible apply And.intro | ((with_reducible show _ = _); exact rfl) | omega | trivial))
      · rename_i p hp hw _ hlt
        rw [hw (by omega)]
        obtain ⟨e,he⟩ := ex_at (l := l) (i := i) (by omega)
        rw [mmT,mmF] at hlt
        refine ⟨i + 1,by omega,by omega,?_⟩
        rw [textF_step hl1 he hp,show piece x y e p = [] from if_neg hlt,List.append_nil]
        (repeat' ((conv => whnf); all_goals first | assumption | with_reducible exact True.intro | with_reducible apply And.intro | ((with_reducible show _ = _); exact rfl) | omega | trivial))
      · have : i = sp.length := by omega
        subst this
        show K (.str (textF x y (l.take sp.length) (sp.take sp.length))) H
        rw [List.take_length,← hl1,List.take_length]
        exact h
  · exact h.elim
end Go.Sx

/-
  SX: what stands between two bytes that go by both.
-/
namespace Go.Sx
open Go Go.Ev Go.RowKit Go.Proofs
set_option maxRecDepth 100000
set_option maxHeartbeats 4000000
def gapB (la : List Ed) (sa : List Sp) (lb : List Ed) (sb : List Sp) (n q : Int) : List UInt8 := if (caS lb n q).2 = 0 then textF (caS lb n q).1 ((caS lb n q).1 + 1) la sa else textF q (q + 1) lb sb
def gapN (la : List Ed) (sa : List Sp) (lb : List Ed) (sb : List Sp) (n u : Int) (m : Nat) : List UInt8 := ((List.range m).map fun j : Nat => gapB la sa lb sb n (u + (j : Int))).flatten
theorem gapN_step {la : List Ed} {sa : List Sp} {lb : List Ed} {sb : List Sp} {n u : Int} {m : Nat} : gapN la sa lb sb n u (m + 1) = gapN la sa lb sb n u m ++ gapB la sa lb sb n (u + (m : Int)) := by
  unfold gapN
  rw [List.range_succ,List.map_append]; simp
def gapT (la : List Ed) (sa : List Sp) (lb : List Ed) (sb : List Sp) (n u v : Int) : List UInt8 := gapN la sa lb sb n u (v - u).toNat
theorem gapB_len {la : List Ed} {sa : List Sp} {lb : List Ed} {sb : List Sp} (ha : SpanOk la sa) (hb : SpanOk lb sb) (n q : Int) : (gapB la sa lb sb n q).length ≤ 1000000 := by
  have hA := ha.sum
  have hB := hb.sum
  unfold gapB
  split
  · have := textF_len (x := (caS lb n q).1) (y := (caS lb n q).1 + 1) ha.len (Nat.le_refl _)
    rw [List.take_length,ha.len,List.take_length] at this
    omega
  · have := textF_len (x := q) (y := q + 1) hb.len (Nat.le_refl _)
    rw [List.take_length,hb.len,List.take_length] at this
    omega
theorem gapN_len {la : List Ed} {sa : List Sp} {lb : List Ed} {sb : List Sp} (ha : SpanOk la sa) (hb : SpanOk lb sb) (n u : Int) : ∀ m : Nat,(gapN la sa lb sb n u m).length ≤ m * 1000000
  | 0 => Nat.zero_le _
  | m + 1 => by
    rw [gapN_step,List.length_append]
    have := gapN_len ha hb n u m
    have := gapB_len ha hb n (u + (m : Int))
    omega
theorem gapB_pos {la : List Ed} {sa : List Sp} {lb : List Ed} {sb : List Sp} {n q : Int} (h : (caS lb n q).2 = 0) : gapB la sa lb sb n q = textF (caS lb n q).1 ((caS lb n q).1 + 1) la sa := if_pos h
theorem gapB_neg {la : List Ed} {sa : List Sp} {lb : List Ed} {sb : List Sp} {n q : Int} (h : ¬ (caS lb n q).2 = 0) : gapB la sa lb sb n q = textF q (q + 1) lb sb := if_neg h
structure GapOk (la : List Ed) (sa : List Sp) (lb : List Ed) (sb : List Sp) (n u v : Int) : Prop where
  a : SpanOk la sa
  b : SpanOk lb sb
  R : Right lb n
  u : -1000000 ≤ u
  v : v ≤ 1000000
  c : ∀ q,(caS lb n q).2 = 0 → -1000000 ≤ (caS lb n q).1 ∧ (caS lb n q).1 ≤ 1000000
def gapE (la : List Ed) (sa : List Sp) (lb : List Ed) (sb : List Sp) (n x y u v : Int) : Ed := ⟨x,y,⟨⟨gapT la sa lb sb n u v⟩⟩⟩
abbrev GapIs (la : List Ed) (sa : List Sp) (lb : List Ed) (sb : List Sp) (n x y u v : Int) : Prop := x < y ∨ gapT la sa lb sb n u v ≠ []
def sp86 : Spec U1 := ⟨true,false,fun H args K => match H,args with
  | [.cells false 129 [.sl 0 la,.sl 3 sa,.sl 0 lb,.sl 3 sb,.int .i64 n,.nilS]],[.ptr 0 0,.int .i64 x,.int .i64 y,.int .i64 u,.int .i64 v] =>
    Chk (GapOk la sa lb sb n u v) ∧ (GapIs la sa lb sb n x y u v → K (.tup []) [.cells false 129 [.sl 0 la,.sl 3 sa,.sl 0 lb,.sl 3 sb,.int .i64 n,.ol 1],.list false false 97 0 [gapE la sa lb sb n x y u v]]) ∧
      (¬ GapIs la sa lb sb n x y u v → K (.tup []) [.cells false 129 [.sl 0 la,.sl 3 sa,.sl 0 lb,.sl 3 sb,.int .i64 n,.nilS]])
  | [.cells false 129 [.sl 0 la,.sl 3 sa,.sl 0 lb,.sl 3 sb,.int .i64 n,.ol 1],.list false false 97 0 out],[.ptr 0 0,.int .i64 x,.int .i64 y,.int .i64 u,.int .i64 v] =>
    Chk (GapOk la sa lb sb n u v) ∧ Chk (out.length ≤ 1000000) ∧ (GapIs la sa lb sb n x y u v → K (.tup []) [.cells false 129 [.sl 0 la,.sl 3 sa,.sl 0 lb,.sl 3 sb,.int .i64 n,.ol 2],.dead,.list false false 97 0 (out ++ [gapE la sa lb sb n x y u v])]) ∧
      (¬ GapIs la sa lb sb n x y u v → K (.tup []) [.cells false 129 [.sl 0 la,.sl 3 sa,.sl 0 lb,.sl 3 sb,.int .i64 n,.ol 1],.list false false 97 0 out])
  | _,_ => False⟩
abbrev C86 := addC 18 sp18 (addC 99 sp99 C0)
theorem C86_ok : COk C86 := addC_ok k18 (addC_ok k99 C0_ok)
theorem k86 : SpecOk R1.T S1 86 sp86 := by
  intro H args K h; unfold sp86 at h; dsimp only at h; split at h
  · rename_i la sa lb sb n x y u v
    obtain ⟨hg,h1,h2⟩ := h
    replace hg := hg.out
    have hu := hg.u
    have hv := hg.v
    have ha := hg.a
    have hb := hg.b
    have hR := hg.R
    have hbl := hb.le
    refine CallOk.of_wpO (p := ⟨S1,C86,76,1,fun _ => none⟩) (par_ok C86_ok _ _) (by kernel_rfl : R1.T.fn 86 = some ⟨76,Try.f86.body.getD .skip,[]⟩) rfl (Nat.le_of_ble_eq_true rfl) ?_ (fun h => by cases h)
    (((repeat' ((conv => whnf); all_goals first | assumption | with_reducible exact True.intro | with_reducible apply And.intro | (intro q; first | (exfalso; exact Bool.noConfusion q) | (exfalso; with_reducible exact q rfl) | subst q | (replace q : false = false := q; clear q) | (replace q : true = true := q; clear q) | (revert q; intro)) | ((with_reducible show _ = _); exact rfl))); all_goals try (conv => whnf); all_goals simp only [eq_self,true_iff,Bool.false_eq_true,false_iff,ed_eta,fl_eta,pt_eta,B_mk,Int.toNat_natCast] at *; all_goals (try contradiction); all_goals try (refine Chk.mk ?_; omega)))
    refine ⟨Nat,fun i => ([(0,.ptr 0 0),(1,.int .i64 x),(2,.int .i64 y),(4,.int .i64 v),(10,.str (gapN la sa lb sb n u i)),(11,.int .i64 (u + (i : Int)))],[.cells false 129 [.sl 0 la,.sl 3 sa,.sl 0 lb,.sl 3 sb,.int .i64 n,.nilS]]),fun i => i ≤ (v - u).toNat,fun i => (v - u).toNat - i,0,Nat.zero_le _,?_,?_⟩
    · (repeat' ((conv => whnf); all_goals first | assumption | with_reducible exact True.intro | with_reducible apply And.intro | ((with_reducible show _ = _); exact rfl) | omega | trivial))
    · intro i hi
      have hlen := gapN_len ha hb n u i
      have hlen1 := gapB_len ha hb n (u + (i : Int))
      (((repeat' ((conv => whnf); all_goals first | assumption | with_reducible exact True.intro | with_reducible apply And.intro | (intro q; first | (exfalso; exact Bool.noConfusion q) | (exfalso; with_reducible exact q rfl) | subst q | (replace q : false = false := q; clear q) | (replace q : true = true := q; clear q) | (revert q; intro)) | ((with_reducible show _ = _); exact rfl))); all_goals try (conv => whnf); all_goals simp only [eq_self,true_iff,Bool.false_eq_true,false_iff,ed_eta,fl_eta,pt_eta,B_mk,Int.toNat_natCast] at *; all_goals (try contradiction); all_goals try (refine Chk.mk ?_; omega)))
      · rename_i h0 hw _
        rw [gapB_pos h0] at hlen1
        rw [hw (by have := hg.c _ h0; omega)]
        refine Chk.mk ?_; omega
      · rename_i h0 hw hw2 _
        rw [hw (by have := hg.c _ h0; omega),hw2 (by omega)]
        refine ⟨i + 1,by omega,by omega,?_⟩
        rw [gapN_step,gapB_pos h0,show u + ((i + 1 : Nat) : Int) = u + (i : Int) + 1 by omega]
        (repeat' ((conv => whnf); all_goals first | assumption | with_reducible exact True.intro | with_reducible apply And.intro | ((with_reducible show _ = _); exact rfl) | omega | trivial))
      · rename_i h0 hw _
        rw [gapB_neg h0] at hlen1
        rw [hw (by omega)]
        refine Chk.mk ?_; omega
      · rename_i h0 hw hw2 _
        rw [hw (by omega)]
        refine ⟨i + 1,by omega,by omega,?_⟩
        rw [gapN_step,gapB_neg h0,show u + ((i + 1 : Nat) : Int) = u + (i : Int) + 1 by omega]
        (repeat' ((conv => whnf); all_goals first | assumption | with_reducible exact True.intro | with_reducible apply And.intro | ((with_reducible show _ = _); exact rfl) | omega | trivial))
      · exact Chk.mk (by show (0 + 1) * 32 ≤ _; decide)
      · have e : i = (v - u).toNat := by omega
        subst e
        refine ⟨.tup [],_,?_,h1 (.inr (by assumption))⟩
        (repeat' ((conv => whnf); all_goals first | assumption | with_reducible exact True.intro | with_reducible apply And.intro | ((with_reducible show _ = _); exact rfl) | omega | trivial))
      · have e : i = (v - u).toNat := by omega
        subst e
        refine ⟨.tup [],_,?_,h2 fun hh => hh.elim (by assumption) (fun h => h (Classical.not_not.1 (by assumption)))⟩
        (repeat' ((conv => whnf); all_goals first | assumption | with_reducible exact True.intro | with_reducible apply And.intro | ((with_reducible show _ = _); exact rfl) | omega | trivial))
      · exact Chk.mk (by show (0 + 1) * 32 ≤ _; decide)
      · have e : i = (v - u).toNat := by omega
        subst e
        refine ⟨.tup [],_,?_,h1 (.inl (by assumption))⟩
        (repeat' ((conv => whnf); all_goals first | assumption | with_reducible exact True.intro | with_reducible apply And.intro | ((with_reducible show _ = _); exact rfl) | omega | trivial))
  · rename_i la sa lb sb n out x y u v
    obtain ⟨hg,hol,h1,h2⟩ := h
    replace hg := hg.out
    replace hol := hol.out
    have hu := hg.u
    have hv := hg.v
    have ha := hg.a
    have hb := hg.b
    have hR := hg.R
    have hbl := hb.le
    refine CallOk.of_wpO (p := ⟨S1,C86,76,2,fun _ => none⟩) (par_ok C86_ok _ _) (by kernel_rfl : R1.T.fn 86 = some ⟨76,Try.f86.body.getD .skip,[]⟩) rfl (Nat.le_of_ble_eq_true rfl) ?_ (fun h => by cases h)
    (((repeat' ((conv => whnf); all_goals first | assumption | with_reducible exact True.intro | with_reducible apply And.intro | (intro q; first | (exfalso; exact Bool.noConfusion q) | (exfalso; with_reducible exact q rfl) | subst q | (replace q : false = false := q; clear q) | (replace q : true = true := q; clear q) | (revert q; intro)) | ((with_reducible show _ = _); exact rfl))); all_goals try (conv => whnf); all_goals simp only [eq_self,true_iff,Bool.false_eq_true,false_iff,ed_eta,fl_eta,pt_eta,B_mk,Int.toNat_natCast] at *; all_goals (try contradiction); all_goals try (refine Chk.mk ?_; omega)))
    refine ⟨Nat,fun i => ([(0,.ptr 0 0),(1,.int .i64 x),(2,.int .i64 y),(4,.int .i64 v),(10,.str (gapN la sa lb sb n u i)),(11,.int .i64 (u + (i : Int)))],[.cells false 129 [.sl 0 la,.sl 3 sa,.sl 0 lb,.sl 3 sb,.int .i64 n,.ol 1],.list false false 97 0 out]),fun i => i ≤ (v - u).toNat,fun i => (v - u).toNat - i,0,Nat.zero_le _,?_,?_⟩
    · (repeat' ((conv => whnf); all_goals first | assumption | with_reducible exact True.intro | with_reducible apply And.intro | ((with_reducible show _ = _); exact rfl) | omega | trivial))
    · intro i hi
      have hlen := gapN_len ha hb n u i
      have hlen1 := gapB_len ha hb n (u + (i : Int))
      (((repeat' ((conv => whnf); all_goals first | assumption | with_reducible exact True.intro | with_reducible apply And.intro | (intro q; first | (exfalso; exact Bool.noConfusion q) | (exfalso; with_reducible exact q rfl) | subst q | (replace q : false = false := q; clear q) | (replace q : true = true := q; clear q) | (revert q; intro)) | ((with_reducible show _ = _); exact rfl))); all_goals try (conv => whnf); all_goals simp only [eq_self,true_iff,Bool.false_eq_true,false_iff,ed_eta,fl_eta,pt_eta,B_mk,Int.toNat_natCast] at *; all_goals (try contradiction); all_goals try (refine Chk.mk ?_; omega)))
      · rename_i h0 hw _
        rw [gapB_pos h0] at hlen1
        rw [hw (by have := hg.c _ h0; omega)]
        refine Chk.mk ?_; omega
      · rename_i h0 hw hw2 _
        rw [hw (by have := hg.c _ h0; omega),hw2 (by omega)]
        refine ⟨i + 1,by omega,by omega,?_⟩
        rw [gapN_step,gapB_pos h0,show u + ((i + 1 : Nat) : Int) = u + (i : Int) + 1 by omega]
        (repeat' ((conv => whnf); all_goals first | assumption | with_reducible exact True.intro | with_reducible apply And.intro | ((with_reducible show _ = _); exact rfl) | omega | trivial))
      · rename_i h0 hw _
        rw [gapB_neg h0] at hlen1
        rw [hw (by omega)]
        refine Chk.mk ?_; omega
      · rename_i h0 hw hw2 _
        rw [hw (by omega)]
        refine ⟨i + 1,by omega,by omega,?_⟩
        rw [gapN_step,gapB_neg h0,show u + ((i + 1 : Nat) : Int) = u + (i : Int) + 1 by omega]
        (repeat' ((conv => whnf); all_goals first | assumption | with_reducible exact True.intro | with_reducible apply And.intro | ((with_reducible show _ = _); exact rfl) | omega | trivial))
      · exact Chk.mk (Nat.le_trans (Nat.mul_le_mul_right 32 (Nat.succ_le_succ hol)) (by show 1000001 * 32 ≤ 140737488355328; decide))
      · have e : i = (v - u).toNat := by omega
        subst e
        refine ⟨.tup [],_,?_,h1 (.inr (by assumption))⟩
        (repeat' ((conv => whnf); all_goals first | assumption | with_reducible exact True.intro | with_reducible apply And.intro | ((with_reducible show _ = _); exact rfl) | omega | trivial))
      · have e : i = (v - u).toNat := by omega
        subst e
        refine ⟨.tup [],_,?_,h2 fun hh => hh.elim (by assumption) (fun h => h (Classical.not_not.1 (by assumption)))⟩
        (repeat' ((conv => whnf); all_goals first | assumption | with_reducible exact True.intro | with_reducible apply And.intro | ((with_reducible show _ = _); exact rfl) | omega | trivial))
      · exact Chk.mk (Nat.le_trans (Nat.mul_le_mul_right 32 (Nat.succ_le_succ hol)) (by show 1000001 * 32 ≤ 140737488355328; decide))
      · have e : i = (v - u).toNat := by omega
        subst e
        refine ⟨.tup [],_,?_,h1 (.inl (by assumption))⟩
        (repeat' ((conv => whnf); all_goals first | assumption | with_reducible exact True.intro | with_reducible apply And.intro | ((with_reducible show _ = _); exact rfl) | omega | trivial))
  · exact h.elim
theorem k86L : SpecOk R1.T S1 86 (lifted sp86) := lifted_ok sys1.1 k86
end Go.Sx

/-
  SX: Grow, Goes, Kept.
-/
namespace Go.Sx
open Go Go.Ev Go.RowKit Go.Proofs
set_option maxRecDepth 100000
set_option maxHeartbeats 4000000
def sp72j : Spec U1 := ⟨false,false,fun H args K => match args with
  | [.sl 0 l] => K (.int .i64 (W (growS l))) H
  | _ => False⟩
theorem k72j : SpecOk R1.T S1 72 sp72j := by
  intro H args K h; unfold sp72j at h; dsimp only at h; split at h
  · rename_i l
    refine st C0_ok (by kernel_rfl : R1.T.fn 72 = some ⟨25,Try.f72.body.getD .skip,[.tmp 2]⟩) rfl rfl ?_
    (((repeat' ((conv => whnf); all_goals first | assumption | with_reducible exact True.intro | with_reducible apply And.intro | (intro q; first | (exfalso; exact Bool.noConfusion q) | (exfalso; with_reducible exact q rfl) | subst q | (replace q : false = false := q; clear q) | (replace q : true = true := q; clear q) | (revert q; intro)) | ((with_reducible show _ = _); exact rfl))); all_goals try (conv => whnf); all_goals simp only [eq_self,true_iff,Bool.false_eq_true,false_iff,ed_eta,fl_eta,pt_eta,B_mk,Int.toNat_natCast] at *; all_goals (try contradiction); all_goals try (refine Chk.mk ?_; omega)))
    refine ⟨Nat × Int,fun y => ([(3,.int .i64 y.2),(6,.sl 0 l),(7,.int .i64 l.length),(8,.int .i64 y.1)],[]),fun y => y.1 ≤ l.length ∧ y.2 = W (growS (l.take y.1)),fun y => l.length - y.1,(0,0),⟨Nat.zero_le _,rfl⟩,?_,?_⟩
    · (repeat' ((conv => whnf); all_goals first | assumption | with_reducible exact True.intro | with_reducible apply And.intro | ((with_reducible show _ = _); exact rfl) | omega | trivial))
    · intro ⟨i,g⟩ ⟨hi,hg⟩
      dsimp only at hi hg
      (((repeat' ((conv => whnf); all_goals first | assumption | with_reducible exact True.intro | with_reducible apply And.intro | (intro q; first | (exfalso; exact Bool.noConfusion q) | (exfalso; with_reducible exact q rfl) | subst q | (replace q : false = false := q; clear q) | (replace q : true = true := q; clear q) | (revert q; intro)) | ((with_reducible show _ = _); exact rfl))); all_goals try (conv => whnf); all_goals simp only [eq_self,true_iff,Bool.false_eq_true,false_iff,ed_eta,fl_eta,pt_eta,B_mk,Int.toNat_natCast] at *; all_goals (try contradiction); all_goals try (refine Chk.mk ?_; omega)))
      · rename_i e he _ _ _ hw _
        rw [hw (by omega)]
        refine ⟨(i + 1,_),by simp only; omega,⟨by simp only; omega,?_⟩,by (repeat' ((conv => whnf); all_goals first | assumption | with_reducible exact True.intro | with_reducible apply And.intro | ((with_reducible show _ = _); exact rfl) | omega | trivial))⟩
        simp only
        rw [growS_step he,hg]
        show W _ = W _
        simp only [W_def,wr]
        omega
      · have : i = l.length := by omega
        subst this
        rw [List.take_length] at hg
        subst hg
        exact h
  · exact h.elim
def sp34 : Spec U1 := ⟨false,false,fun H args K => match args with
  | [.sl 0 l,.int .i64 n] => (Right l n → K (.tup [.int .i64 (W (growS l)),.nilI]) H) ∧ (¬ Right l n → K (.tup [.int .i64 0,.iface 37 (.int .i64 2)]) H)
  | _ => False⟩
theorem k34 : SpecOk R1.T S1 34 sp34 := by
  intro H args K h; unfold sp34 at h; dsimp only at h; split at h
  · rename_i l n
    obtain ⟨h1,h2⟩ := h
    refine st (addC_ok j35 (addC_ok k72j C0_ok)) (by kernel_rfl : R1.T.fn 34 = some ⟨13,Try.f34.body.getD .skip,[.tmp 4,.tmp 5]⟩) rfl rfl ?_
    (((repeat' ((conv => whnf); all_goals first | assumption | with_reducible exact True.intro | with_reducible apply And.intro | (intro q; first | (exfalso; exact Bool.noConfusion q) | (exfalso; with_reducible exact q rfl) | subst q | (replace q : false = false := q; clear q) | (replace q : true = true := q; clear q) | (revert q; intro)) | ((with_reducible show _ = _); exact rfl))); all_goals try (conv => whnf); all_goals simp only [eq_self,true_iff,Bool.false_eq_true,false_iff,ed_eta,fl_eta,pt_eta,B_mk,Int.toNat_natCast] at *; all_goals (try contradiction); all_goals try (refine Chk.mk ?_; omega)))
    · exact h1 (by assumption)
    · exact h2 (by assumption)
  · exact h.elim
def sp17j : Spec U1 := ⟨false,false,fun H args K => match args with
  | [.sl 0 l,.int .i64 n,.int .i64 q] => Chk (l.length ≤ 1000) ∧ Chk (Right l n) ∧ ((goS l n q).2 = 0 → K (.tup [.int .i64 (goS l n q).1,.nilI]) H) ∧ (¬ (goS l n q).2 = 0 → K (.tup [.int .i64 (goS l n q).1,.iface 37 (.int .i64 (goS l n q).2)]) H)
  | _ => False⟩
theorem k17j : SpecOk R1.T S1 17 sp17j := by
  intro H args K h; unfold sp17j at h; dsimp only at h; split at h
  · rename_i l n q
    obtain ⟨hl,hR,h1,h2⟩ := h
    replace hl := hl.out
    replace hR := hR.out
    refine st (addC_ok j35 (addC_ok k65 C0_ok)) (by kernel_rfl : R1.T.fn 17 = some ⟨39,Try.f17.body.getD .skip,[.tmp 6,.tmp 7]⟩) rfl rfl ?_
    (((repeat' ((conv => whnf); all_goals first | assumption | with_reducible exact True.intro | with_reducible apply And.intro | (intro q; first | (exfalso; exact Bool.noConfusion q) | (exfalso; with_reducible exact q rfl) | subst q | (replace q : false = false := q; clear q) | (replace q : true = true := q; clear q) | (revert q; intro)) | ((with_reducible show _ = _); exact rfl))); all_goals try (conv => whnf); all_goals simp only [eq_self,true_iff,Bool.false_eq_true,false_iff,ed_eta,fl_eta,pt_eta,B_mk,Int.toNat_natCast] at *; all_goals (try contradiction); all_goals try (refine Chk.mk ?_; omega)))
    refine ⟨Nat,fun i => ([(0,.sl 0 l),(1,.int .i64 n),(2,.int .i64 q),(17,.sl 2 (runsS l n)),(18,.int .i64 (runsS l n).length),(19,.int .i64 i)],[]),fun i => i ≤ (runsS l n).length ∧ NoB (InR q) (runsS l n) i,fun i => (runsS l n).length - i,0,⟨Nat.zero_le _,.zero⟩,?_,?_⟩
    · (repeat' ((conv => whnf); all_goals first | assumption | with_reducible exact True.intro | with_reducible apply And.intro | ((with_reducible show _ = _); exact rfl) | omega | trivial))
    · intro i ⟨hi,ho⟩
      (((repeat' ((conv => whnf); all_goals first | assumption | with_reducible exact True.intro | with_reducible apply And.intro | (intro q; first | (exfalso; exact Bool.noConfusion q) | (exfalso; with_reducible exact q rfl) | subst q | (replace q : false = false := q; clear q) | (replace q : true = true := q; clear q) | (revert q; intro)) | ((with_reducible show _ = _); exact rfl))); all_goals try (conv => whnf); all_goals simp only [eq_self,true_iff,Bool.false_eq_true,false_iff,ed_eta,fl_eta,pt_eta,B_mk,Int.toNat_natCast] at *; all_goals (try contradiction); all_goals try (refine Chk.mk ?_; omega)))
      · rename_i r hr _ _ h3 h4
        have hc := goS_at ho hr ⟨h3,h4⟩
        rw [hc] at h1
        exact h1 rfl
      · rename_i r hr hw _ h3 h4
        rw [hw (by omega)]
        refine ⟨i + 1,by omega,⟨by omega,ho.step hr fun hp => h4 hp.2⟩,?_⟩
        (repeat' ((conv => whnf); all_goals first | assumption | with_reducible exact True.intro | with_reducible apply And.intro | ((with_reducible show _ = _); exact rfl) | omega | trivial))
      · rename_i r hr hw _ h3
        rw [hw (by omega)]
        refine ⟨i + 1,by omega,⟨by omega,ho.step hr fun hp => h3 hp.1⟩,?_⟩
        (repeat' ((conv => whnf); all_goals first | assumption | with_reducible exact True.intro | with_reducible apply And.intro | ((with_reducible show _ = _); exact rfl) | omega | trivial))
      · have hc := goS_none ho (by omega)
        rw [hc] at h2
        exact h2 (by decide)
  · exact h.elim
def sp26 : Spec U1 := ⟨false,false,fun H args K => match H,args with
  | [],[.sl 0 l,.int .i64 n] => K (.func 68 [] [.ptr 0 0,.ptr 1 0]) [.cells false 22 [.sl 0 l],.cells false 3 [.int .i64 n]]
  | _,_ => False⟩
theorem k26 : SpecOk R1.T S1 26 sp26 := by
  intro H args K h; unfold sp26 at h; dsimp only at h; split at h
  · rename_i l n
    refine CallOk.of_wpO (p := ⟨S1,C0,6,0,fun _ => none⟩) (par_ok C0_ok _ _) (by kernel_rfl : R1.T.fn 26 = some ⟨6,Try.f26.body.getD .skip,[.tmp 4]⟩) rfl (Nat.le_of_ble_eq_true rfl) ?_ (fun _ => rfl)
    (repeat' ((conv => whnf); all_goals first | assumption | with_reducible exact True.intro | with_reducible apply And.intro | (intro q; first | (exfalso; exact Bool.noConfusion q) | (exfalso; with_reducible exact q rfl) | subst q | (replace q : false = false := q; clear q) | (replace q : true = true := q; clear q) | (revert q; intro)) | ((with_reducible show _ = _); exact rfl)))
    refine ⟨_,_,?_,h⟩
    (repeat' ((conv => whnf); all_goals first | assumption | with_reducible exact True.intro | with_reducible apply And.intro | ((with_reducible show _ = _); exact rfl) | omega | trivial))
  · exact h.elim
theorem k26L : SpecOk R1.T S1 26 (lifted sp26) := lifted_ok sys1.1 k26
end Go.Sx
