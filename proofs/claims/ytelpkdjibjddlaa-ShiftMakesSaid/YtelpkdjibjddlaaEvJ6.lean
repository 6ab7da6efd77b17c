/-
  SX: loops over functions: the iterator is walked in its loop's place.
-/
import Derived.Test.YtelpkdjibjddlaaEvC0
import Derived.Test.YtelpkdjibjddlaaEvApplyLaw
import Derived.Test.YtelpkdjibjddlaaEvShiftLaw
set_option linter.unusedSimpArgs false
set_option linter.unusedVariables false
namespace Go.Sx
open Go Go.Ev Go.RowKit Go.Proofs
set_option maxRecDepth 100000
section
variable {U : Nat → Type} {T : Tab} {S : Sys U}
def addY (i : Nat) (hs : Spec U) (C : FuncId → Option (Spec U)) : FuncId → Option (Spec U) := fun g => bif Nat.beq g (Nat.add YB i) then some hs else C g
noncomputable def inl (S : Sys U) (C : FuncId → Option (Spec U)) (nt : Nat) (body : Code) (rs : List ResultVar) : Spec U → Nat → Spec U := fun hs i => ⟨true,false,fun H args K => forceI i fun i => forceI (lenH H) fun m => forceL force args fun args => bif Nat.ble (lenL args) nt then wp ⟨S,addY i hs C,nt,m,fun _ => none⟩ body (frm0 0 args) H (finO ⟨S,addY i hs C,nt,m,fun _ => none⟩ rs K) else False⟩
theorem addY_ok {C : FuncId → Option (Spec U)} (hC : CallsOk T S C fun _ => True) {hs : Spec U} {i : Nat} {R : Env U → Prop} (hl : ∀ X X',Later X X' → R X → R X') (hr : RndOk T S R hs i) : CallsOk T S (addY i hs C) R := by
  refine ⟨hl,fun g sp hg => ?_⟩
  unfold addY at hg
  cases hb : Nat.beq g (Nat.add YB i) with
  | true =>
    rw [hb] at hg; cases hg
    have := beq_nat hb; subst this
    refine ⟨fun h => absurd h (Nat.not_lt.2 (Nat.le_add_right _ _)),fun j e => ?_⟩
    have : i = j := Nat.add_left_cancel e
    subst this; exact hr
  | false =>
    rw [hb] at hg
    obtain ⟨h1,h2⟩ := hC.2 g sp hg
    exact ⟨h1,fun j e H args K hrun X vals hH hrel _ hd s e1 e2 N hN => h2 j e H args K hrun X vals hH hrel trivial hd s e1 e2 N hN⟩
theorem inl_ok (ok : SysOk T S) (sz : ∀ e,S.size e < END) {C : FuncId → Option (Spec U)} (hC : CallsOk T S C fun _ => True) {f : FuncId} {nt : Nat} {body : Code} {rs : List ResultVar} (hF : T.fn f = some ⟨nt,body,rs⟩) (hs : Spec U) (i : Nat) (R : Env U → Prop) (_ : hs.wr = true) (hl : ∀ X X',Later X X' → R X → R X') (hrn : RndOk T S R hs i)
    (H : Hp U) (args : List (SV U)) (K : SV U → Hp U → Prop) (hrun : (inl S C nt body rs hs i).run H args K) (X : Env U) (vals : List Value) (hH : X.H = H) (hr : HRel S X) (hRX : R X) (hd : DenL S X args vals) (s : St) (h1 : s.t = X.t) (h2 : s.next = X.n) :
    EndsCall T f vals s fun v s' => ∃ sv H' ns' d,K sv H' ∧ Den S ⟨X.wb,X.ns ++ ns',H',s'.t,s'.next⟩ sv v ∧ Step S X s ⟨X.wb,X.ns ++ ns',H',s'.t,s'.next⟩ s' d := by
  unfold inl at hrun
  dsimp only at hrun
  rw [forceI_eq,forceI_eq,forceL_eq force_eq] at hrun
  obtain ⟨hn,h⟩ := bif_true hrun
  have hn := Nat.le_of_ble_eq_true hn
  rw [lenL_eq] at hn
  generalize hp : (⟨S,addY i hs C,nt,lenH H,fun _ => none⟩ : Par U) = p at h
  have hpS : p.S = S := by rw [← hp]
  have hpn : p.nt = nt := by rw [← hp]
  have hpm : p.m = H.length := by rw [← hp]; exact lenH_eq _
  subst hpS hpn
  have hpC : CallsOk T p.S p.C R := by rw [← hp]; exact addY_ok hC hl hrn
  have hpI : ItsOk T p.S p.I := by
    have : p.I = fun _ => none := by rw [← hp]
    rw [this]; intro g it h; cases h
  have P : ParR T p R X s := ⟨ok,sz,hpC,hpI,fun X' s' a1 a2 a3 a4 => by
    rw [hpm,← hH] at a4
    obtain ⟨_,_,_,st,_⟩ := Tr.end hr h1 h2 a4 a2 a3 a1
    exact hl _ _ st.later hRX⟩
  clear hp
  refine EndsCall.of hF ?_
  have hR : Rl p.S p.nt [] X (frm0 0 args) ⟨vals ++ List.replicate (p.nt - vals.length) Go.undef,[]⟩ s := ⟨h1.symm,h2.symm,hr,frm0_ok hd _,by have := hd.len; simp; omega,rfl,.nil,fun _ h => by cases h⟩
  have hT : Tr p.m X s X s := by rw [hpm,← hH]; exact Tr.refl hr s
  rw [← hH] at h
  refine (wp_sound body P (.inl rfl) hR hT h).mono fun e fr s1 ⟨dq1,F,Y1,k1,kR,kT,kq,_⟩ => ?_
  obtain ⟨s2,Y,yH,hfin,k2,k3⟩ := done_of kR kT fun D hD => (kq D hD).resolve_left (by simp)
  rw [← yH] at k1
  have he : isExit e = false := by cases e with
    | exit i => exact k1.elim
    | _ => rfl
  have k1 : resS p.S F Y.H rs fun l => ∃ v0 H0,covers p.m [(0,v0)] H0 [(0,valS l)] Y.H ∧ K v0 H0 := by
    cases e with
    | exit i => cases he
    | _ => exact k1
  obtain ⟨l,vals',⟨v0,H0,c1,c2⟩,g3,g4⟩ := resS_sound ok k2.rel k2.frm k1
  refine ⟨_,s2,finish_of he (by rw [kR.dfs]; exact hfin) (g4 s2 k2.t.symm),?_⟩
  have hR1 : Rl p.S 1 [] Y [(0,valS l)] ⟨[valOf vals'],[]⟩ s2 := by
    refine ⟨k2.t,k2.n,k2.rel,fun t => ?_,rfl,rfl,.nil,fun _ h => by cases h⟩
    unfold get
    cases hb : Nat.beq t 0 with
    | true => have := beq_nat hb; subst this; exact valS_den g3
    | false => exact .undef .nil
  obtain ⟨Z,z1,z2,z3⟩ := covers_sound ok hR1 k3 c1
  rw [hpm,← hH] at z3
  obtain ⟨ns',d,e1,e2,_⟩ := Tr.end hr h1 h2 z3 z2.t z2.n z2.rel
  have hd0 := z2.frm 0
  rw [e1] at hd0 e2
  rw [z1] at hd0 e2
  exact ⟨v0,H0,ns',d,c2,hd0,e2⟩
def forceR : Ren → (Ren → Prop) → Prop
  | [],K => K []
  | (a,b) :: σ,K => forceI a fun a => forceI b fun b => forceR σ fun σ => K ((a,b) :: σ)
theorem forceR_eq : ∀ (σ : Ren) (K : Ren → Prop),forceR σ K = K σ
  | [],K => rfl
  | (a,b) :: σ,K => by unfold forceR; rw [forceI_eq,forceI_eq,forceR_eq]
def pairN (H : Hp U) : Hp U → Nat → Ren → (Ren → Prop) → Prop
  | [],_,σ,K => K σ
  | c :: H0,i,σ,K => match c,conAt H (ren σ i) with
    | .cells _ _ vs,.cells _ _ ws => forceR (σ ++ pairL pair2 vs ws) fun σ => pairN H H0 (Nat.succ i) σ K
    | _,_ => pairN H H0 (Nat.succ i) σ K
theorem pairN_eq {H : Hp U} : ∀ (H0 : Hp U) (i : Nat) (σ : Ren) (K : Ren → Prop),pairN H H0 i σ K = K (pairH σ H i H0)
  | [],i,σ,K => rfl
  | c :: H0,i,σ,K => by
    unfold pairN pairH
    cases c <;> cases conAt H (ren σ i) <;> simp only [forceR_eq,pairN_eq]
def coversN (m : Nat) (F0 : Frm U) (H0 : Hp U) (F : Frm U) (H : Hp U) : Prop := adopt H0 F0 F H fun F H => forceR (pairF F0 F) fun σ => pairN H H0 0 σ fun σ => covers1 m F0 H0 F H σ
theorem covers_n {m : Nat} {F0 : Frm U} {H0 : Hp U} {F : Frm U} {H : Hp U} (h : coversN m F0 H0 F H) : covers m F0 H0 F H := by
  unfold coversN at h
  simp only [forceR_eq,pairN_eq] at h
  exact h
end
abbrev Its (U : Nat → Type) := FuncId → Option (Spec U → Nat → Spec U)
def I0 : Its U1 := fun _ => none
def addI (f : FuncId) (it : Spec U1 → Nat → Spec U1) (I : Its U1) : Its U1 := fun g => bif Nat.beq g f then some it else I g
abbrev IOk (I : Its U1) : Prop := ItsOk R1.T S1 I
theorem I0_ok : IOk I0 := fun g it h => by cases h
theorem addI_ok {C : FuncId → Option (Spec U1)} (hC : COk C) {f : FuncId} {nt : Nat} {body : Code} {rs : List ResultVar} (hF : R1.T.fn f = some ⟨nt,body,rs⟩) {I : Its U1} (hI : IOk I) : IOk (addI f (inl S1 C nt body rs) I) := by
  intro g it hg
  unfold addI at hg
  cases hb : Nat.beq g f with
  | true =>
    rw [hb] at hg; cases hg
    have := beq_nat hb; subst this
    exact inl_ok sys1.1 sys1.2 hC hF
  | false => rw [hb] at hg; exact hI g it hg
theorem parI_ok {C : FuncId → Option (Spec U1)} (hC : COk C) {I : Its U1} (hI : IOk I) (nt m : Nat) : ParOk R1.T ⟨S1,C,nt,m,I⟩ := ⟨sys1.1,sys1.2,hC,hI⟩
theorem stI {C : FuncId → Option (Spec U1)} (hC : COk C) {I : Its U1} (hI : IOk I) {f : FuncId} {nt : Nat} {body : Code} {rs : List ResultVar} {args : List (SV U1)} {H : Hp U1} {K : SV U1 → Hp U1 → Prop} (hF : R1.T.fn f = some ⟨nt,body,rs⟩) (hn : Nat.ble args.length nt = true) (ha : args.all (below 0) = true)
    (h : wp ⟨S1,C,nt,0,I⟩ body (frm0 0 args) [] (fin ⟨S1,C,nt,0,I⟩ rs fun v _ => K v H)) {wr : Bool} : CallOk R1.T S1 wr f H args K := CallOk.pure (p := ⟨S1,C,nt,0,I⟩) (parI_ok hC hI _ _) hF rfl (Nat.le_of_ble_eq_true hn) ha h
def forced (sp : Spec U1) : Spec U1 := ⟨sp.wr,sp.own,fun H args K => sp.run H args fun r H' => forceH H' fun H' => force r fun r => K r H'⟩
def addNF : List Nat → List Nat → (List Nat → Prop) → Prop
  | [],js,K => K js
  | i :: l,js,K => forceN (bif memN js i then js else js ++ [i]) fun js => addNF l js K
theorem addNF_eq : ∀ (l js : List Nat) (K : List Nat → Prop),addNF l js K = K (addN l js)
  | [],js,K => rfl
  | i :: l,js,K => by unfold addNF addN; rw [forceN_eq,addNF_eq]
def closeNF (H : Hp U1) : Nat → List Nat → (List Nat → Prop) → Prop
  | 0,js,K => K js
  | n + 1,js,K => addNF (js.flatMap fun j => idsC (conAt H j)) js fun js => closeNF H n js K
theorem closeNF_eq {H : Hp U1} : ∀ (n : Nat) (js : List Nat) (K : List Nat → Prop),closeNF H n js K = K (closeN H n js)
  | 0,js,K => rfl
  | n + 1,js,K => by unfold closeNF closeN; rw [addNF_eq,closeNF_eq]
def liftedN (sp : Spec U1) : Spec U1 := ⟨sp.wr,sp.own,fun H args K => forceH H fun H => forceL force args fun args => addNF (args.flatMap ids3) [] fun js => closeNF H 3 js fun js => bif nodupB js && allLt H.length js then forceH (locH H js) fun L => forceL force (args.map (down3 js)) fun xs => sp.run L xs (fun r H1 => forceH (liftH H js H1) fun H' => force (up3 H1 js.length (atN js H.length) r) fun r => K r H') else False⟩
theorem liftedN_ok {f : FuncId} {sp : Spec U1} (h : SpecOk R1.T S1 f (lifted sp)) : SpecOk R1.T S1 f (liftedN sp) := fun H args K hr => h H args K (by
  unfold liftedN at hr
  unfold lifted
  simp only [forceH_eq,force_eq,forceL_eq force_eq,addNF_eq,closeNF_eq,forceN_eq] at hr ⊢
  exact hr)
def NilTo (c : Nat) (K : SV U1 → Hp U1 → Prop) : SV U1 → Hp U1 → Prop := fun v H => match v with
  | .nilS => K (.sl c []) H
  | .tup [.nilS,x] => K (.tup [.sl c [],x]) H
  | v => K v H
theorem CallOk.resNil {f : FuncId} {H : Hp U1} {args : List (SV U1)} {K : SV U1 → Hp U1 → Prop} {wr : Bool} (c : Nat) (h : CallOk R1.T S1 wr f H args (NilTo c K)) : CallOk R1.T S1 wr f H args K := by
  intro X vals hH hr hd s h1 h2
  refine EndsCall.mono (h X vals hH hr hd s h1 h2) fun v s' ⟨sv,H',ns',d,k1,k2,k3⟩ => ?_
  unfold NilTo at k1
  split at k1
  · exact ⟨_,H',ns',d,k1,nilS_den k2,k3⟩
  · obtain ⟨vs,rfl,d'⟩ := tup_inv k2
    exact ⟨_,H',ns',d,k1,.tup (nilS_den d') .nil,k3⟩
  · exact ⟨_,H',ns',d,k1,k2,k3⟩
end Go.Sx

/-
  SX: of each byte of the new text whence it came, and its bytes.
-/
namespace Go.Sx
open Go Go.Ev Go.RowKit Go.Proofs
set_option maxRecDepth 100000
set_option maxHeartbeats 4000000
def tfStep (p : List UInt8 × Int) (e : Ed) : List UInt8 × Int := (p.1 ++ List.replicate (e.lo - p.2).toNat 46 ++ B e.tx,e.hi)
def tfF (l : List Ed) : List UInt8 × Int := l.foldl tfStep ([],0)
def fromT (l : List Ed) (n : Int) : List UInt8 := (tfF l).1 ++ List.replicate (n - (tfF l).2).toNat 46
theorem tfF_step {l : List Ed} {i : Nat} {e : Ed} (he : l[i]? = some e) : tfF (l.take (i + 1)) = tfStep (tfF (l.take i)) e := foldl_step he
theorem tf_two : ∀ {l : List Ed} {i : Nat},i ≤ l.length → (tfF (l.take i)).2 = (fromF (l.take i)).2
  | l,0,_ => rfl
  | l,i + 1,h => by
    obtain ⟨e,he⟩ := ex_at (l := l) (i := i) (by omega)
    rw [tfF_step he,fromF_step he]; rfl
theorem tf_len {l : List Ed} {n : Int} (hR : Right l n) : ∀ {i : Nat},i ≤ l.length → (fromF (l.take i)).1.length ≤ n.toNat + sumT (l.take i) ∧ (((fromF (l.take i)).1.length : Nat) : Int) ≤ (fromF (l.take i)).2 + sumT (l.take i) ∧ (tfF (l.take i)).1.length = (fromF (l.take i)).1.length
  | 0,_ => ⟨Nat.zero_le _,by simp [fromF,sumT],rfl⟩
  | i + 1,h => by
    obtain ⟨e,he⟩ := ex_at (l := l) (i := i) (by omega)
    obtain ⟨h1,h2,h3⟩ := tf_len hR (i := i) (by omega)
    have ha := at_le hR he
    have hw := (hR.2 i (by omega) e he).1
    have h4 := tf_two (l := l) (i := i) (by omega)
    have e0 : (fromF (l.take (i + 1))).1.length = (fromF (l.take i)).1.length + (e.lo - (fromF (l.take i)).2).toNat + (B e.tx).length := by
      rw [fromF_step he]; simp [fromStep,upTo_len]; omega
    have e1 : (tfF (l.take (i + 1))).1.length = (tfF (l.take i)).1.length + (e.lo - (tfF (l.take i)).2).toNat + (B e.tx).length := by
      rw [tfF_step he]; simp [tfStep]; omega
    have e2 : (fromF (l.take (i + 1))).2 = e.hi := by rw [fromF_step he]; rfl
    rw [sumT_step he,e0,e1,e2,h3,h4]
    refine ⟨by omega,by push_cast; omega,rfl⟩
end Go.Sx
