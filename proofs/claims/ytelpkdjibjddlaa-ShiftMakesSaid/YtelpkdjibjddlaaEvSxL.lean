/-
  SX, PART I: operations that lay one block.
-/
import Derived.Test.YtelpkdjibjddlaaEvSxH
set_option linter.unusedSimpArgs false
set_option linter.unusedVariables false
namespace Go.Sx
open Go Go.Ev Go.RowKit
variable {U : Nat → Type} {T : Tab} {S : Sys U}
theorem FrmOk.later {X X' : Env U} (h : Later X X') {F : Frm U} {tmps : List Value} (hF : FrmOk S X F tmps) : FrmOk S X' F tmps := fun t => (hF t).later h
theorem putAt_app : ∀ (P Z c : List Value),putAt (P ++ Z) P.length c = P ++ putAt Z 0 c
  | [],Z,c => rfl
  | p :: P,Z,[] => by cases Z <;> cases P <;> simp [putAt]
  | p :: P,Z,c :: cs => by simp [putAt,putAt_app P Z (c :: cs)]
theorem putAt_zero : ∀ (Z c : List Value),c.length ≤ Z.length → putAt Z 0 c = c ++ Z.drop c.length
  | Z,[],_ => by cases Z <;> rfl
  | [],c :: cs,h => by simp at h
  | z :: Z,c :: cs,h => by simp [putAt,putAt_zero Z cs (by simpa using h)]
theorem fill_seq {k : Nat} : ∀ (cs : List Value) (i : Nat) (P Z : List Value),P.length = i * k → (∀ c ∈ cs,(cellsOf c).length = k) → cs.length * k ≤ Z.length →
    fillL (fun i => some (i * k,k)) (P ++ Z) (cs.zipIdx i |>.map fun p => (p.2,p.1)) = some (P ++ (cs.map cellsOf).flatten ++ Z.drop (cs.length * k))
  | [],i,P,Z,_,_,_ => by simp [fillL]
  | c :: cs,i,P,Z,hP,hc,hZ => by
    have h1 := hc c List.mem_cons_self
    have h2 : k ≤ Z.length := by simp [Nat.succ_mul] at hZ; omega
    simp only [List.zipIdx_cons,List.map_cons,fillL]
    rw [if_pos ⟨h1,by rw [List.length_append,hP]; omega⟩,← hP,putAt_app,putAt_zero Z _ (by omega),h1,← List.append_assoc]
    rw [fill_seq cs (i + 1) (P ++ cellsOf c) (Z.drop k) (by rw [List.length_append,hP,h1,Nat.succ_mul]) (fun c' h => hc c' (List.mem_cons_of_mem _ h)) (by simp [Nat.succ_mul] at hZ ⊢; omega)]
    simp only [List.flatten_cons,List.append_assoc,List.drop_drop,List.length_cons,Nat.succ_mul]
    rw [Nat.add_comm k]
def Pieces (S : Sys U) (X : Env U) {c : Nat} (l : List (U c)) (css : List (List Value)) : Prop := css.length = l.length ∧ ∀ (j : Nat) x cs,l[j]? = some x → css[j]? = some cs → cs.length = S.k c ∧ DenL S X (S.cells c x) cs
theorem Pieces.later {X X' : Env U} (h : Later X X') {c : Nat} {l : List (U c)} {css : List (List Value)} (p : Pieces S X l css) : Pieces S X' l css := ⟨p.1,fun j x cs h1 h2 => ⟨(p.2 j x cs h1 h2).1,(p.2 j x cs h1 h2).2.later h⟩⟩
theorem Pieces.nil {X : Env U} {c : Nat} : Pieces S X ([] : List (U c)) [] := ⟨rfl,fun j x cs h => by simp at h⟩
theorem Pieces.cons {X : Env U} {c : Nat} {x : U c} {cs : List Value} {l : List (U c)} {css : List (List Value)} (h1 : cs.length = S.k c) (h2 : DenL S X (S.cells c x) cs) (p : Pieces S X l css) : Pieces S X (x :: l) (cs :: css) := by
  refine ⟨by simp [p.1],fun j y ds h3 h4 => ?_⟩
  cases j with
  | zero => simp at h3 h4; subst h3 h4; exact ⟨h1,h2⟩
  | succ j => exact p.2 j y ds (by simpa using h3) (by simpa using h4)
theorem Pieces.app {X : Env U} {c : Nat} {l m : List (U c)} {css dss : List (List Value)} (p : Pieces S X l css) (q : Pieces S X m dss) : Pieces S X (l ++ m) (css ++ dss) := by
  refine ⟨by simp [p.1,q.1],fun j y ds h3 h4 => ?_⟩
  by_cases hj : j < l.length
  · rw [List.getElem?_append_left hj] at h3
    rw [List.getElem?_append_left (p.1 ▸ hj)] at h4
    exact p.2 j y ds h3 h4
  · rw [List.getElem?_append_right (by omega)] at h3
    rw [List.getElem?_append_right (by have := p.1; omega),p.1] at h4
    exact q.2 _ y ds h3 h4
theorem flat_at {k : Nat} : ∀ (css : List (List Value)) (j : Nat) (cs : List Value),(∀ d ∈ css,d.length = k) → css[j]? = some cs → Ev.slice css.flatten (j * k) k = some cs
  | [],j,cs,_,h => by simp at h
  | d :: css,0,cs,hk,h => by
    simp at h; subst h
    have := hk d List.mem_cons_self
    unfold Ev.slice; simp [this]
  | d :: css,j + 1,cs,hk,h => by
    have ih := flat_at css j cs (fun d hd => hk d (List.mem_cons_of_mem _ hd)) (by simpa using h)
    have hd := hk d List.mem_cons_self
    unfold Ev.slice at ih ⊢
    have : (d :: css).flatten.drop ((j + 1) * k) = css.flatten.drop (j * k) := by
      rw [List.flatten_cons,Nat.succ_mul,Nat.add_comm,← List.drop_drop,← hd,List.drop_left]
    rw [this]; exact ih
theorem Pieces.all {X : Env U} {c : Nat} {l : List (U c)} {css : List (List Value)} (p : Pieces S X l css) : ∀ d ∈ css,d.length = S.k c := by
  intro d hd
  obtain ⟨j,hj⟩ := List.getElem?_of_mem hd
  have hl : j < l.length := p.1 ▸ (List.getElem?_eq_some_iff.1 hj).1
  exact (p.2 j _ d (List.getElem?_eq_getElem hl) hj).1
theorem flat_length {k : Nat} : ∀ {css : List (List Value)},(∀ d ∈ css,d.length = k) → css.flatten.length = css.length * k
  | [],_ => by simp
  | d :: css,h => by
    rw [List.flatten_cons,List.length_append,h d List.mem_cons_self,flat_length fun e he => h e (List.mem_cons_of_mem _ he),List.length_cons,Nat.succ_mul,Nat.add_comm]
theorem Pieces.con {X : Env U} {c : Nat} {l : List (U c)} {css : List (List Value)} (p : Pieces S X l css) {fz ex : Bool} {e M : Nat} (h0 : l.length < END) (ht : X.t.get M = some (.cells css.flatten e 0)) (hM : M < X.n) (hf : fz = true → ¬ X.fb M) : ConOk S X (some M) (.list fz ex e c l) := by
  refine ⟨h0,css.flatten,fun j => (css[j]?).getD [],ht,?_,fun j x hx => ?_,fun j x hx => ?_,hM,hf⟩
  · rw [flat_length p.all,p.1]
  · have hj : j < css.length := p.1 ▸ (List.getElem?_eq_some_iff.1 hx).1
    simp only [List.getElem?_eq_getElem hj,Option.getD_some]
    exact flat_at css j _ p.all (List.getElem?_eq_getElem hj)
  · have hj : j < css.length := p.1 ▸ (List.getElem?_eq_some_iff.1 hx).1
    simp only [List.getElem?_eq_getElem hj,Option.getD_some]
    exact (p.2 j x _ hx (List.getElem?_eq_getElem hj)).2
def Env.setH (X : Env U) (H' : Hp U) : Env U := ⟨X.wb,X.ns,H',X.t,X.n⟩
structure Ghost (S : Sys U) (X : Env U) (H' : Hp U) : Prop where
  later : Later X (X.setH H')
  rel : HRel S (X.setH H')
  live : ∀ N,(X.setH H').liveN N → X.liveN N
theorem Ghost.refl {X : Env U} (h : HRel S X) : Ghost S X X.H := ⟨Later.refl X,h,fun _ h => h⟩
theorem Ghost.trans {X : Env U} {H1 H2 : Hp U} (h : Ghost S X H1) (g : Ghost S (X.setH H1) H2) : Ghost S X H2 := ⟨h.later.trans g.later,g.rel,fun N hN => h.live N (g.live N hN)⟩
theorem elems_sound (ok : SysOk T S) {F : Frm U} {fr : Fr} {c n : Nat} : ∀ {ps : List (Nat × Operand)} {i : Nat} {X : Env U} {K : List (U c) → Hp U → Prop},HRel S X → FrmOk S X F fr.tmps → elemsS S F c n i ps X.H K →
    ∃ l H',∃ vs : List Value,K l H' ∧ Ghost S X H' ∧ Pieces S (X.setH H') l (vs.map cellsOf) ∧ i + vs.length = n ∧ (ps.map fun p => (p.1,fr.eval p.2)) = (vs.zipIdx i).map fun p => (p.2,p.1)
  | [],i,X,K,hr,hF,h => by
    unfold elemsS at h
    obtain ⟨hc,h⟩ := bif_true h
    exact ⟨[],X.H,[],h,Ghost.refl hr,Pieces.nil,by simpa using beq_nat hc,rfl⟩
  | (j,x) :: ps,i,X,K,hr,hF,h => by
    unfold elemsS at h
    obtain ⟨hc,hK⟩ := bif_true h
    obtain ⟨hc1,hc2⟩ := and_tt hc
    have hij := beq_nat hc1
    subst hij
    have hx := evo_den hF x
    have hne : evo F x ≠ .undef := by intro e; rw [e] at hc2; cases hc2
    have hcx := cellsOf_den hx hne
    obtain ⟨cs,H1,g1,g2,g3,g4,g5⟩ := resL_sound hr hK hcx
    split at g1
    · rename_i y hy
      have G1 : Ghost S X H1 := ⟨g3,g4,g5⟩
      obtain ⟨l,H',vs,k1,k2,k3,k4,k5⟩ := elems_sound ok (X := X.setH H1) (i := i + 1) g4 (hF.later g3) g1
      have hd := ok.of c cs y hy _ _ g2
      refine ⟨y :: l,H',fr.eval x :: vs,k1,G1.trans k2,Pieces.cons ?_ (hd.later k2.later) k3,by simp; omega,?_⟩
      · rw [hd.len,(ok.cells c y).1]
      · simp only [List.map_cons,List.zipIdx_cons,k5]
    · exact g1.elim
def Laid (S : Sys U) (X : Env U) (sv : SV U) (H' : Hp U) (v : Value) (blk : Blk) : Prop := ∀ t' : Tree,t'.get X.n = some blk → (∀ M,M ≠ X.n → t'.get M = X.t.get M) →
  let X' : Env U := ⟨X.wb,X.ns ++ [some X.n],H',t',X.n + 1⟩
  Den S X' sv v ∧ Later X X' ∧ HRel S X' ∧ ∀ N,N < X.n → X'.liveN N → X.liveN N
theorem lay_live {X : Env U} (hr : HRel S X) {c : Con U} {t' : Tree} {n' N : Nat} (hN : N < X.n) (h : Env.liveN ⟨X.wb,X.ns ++ [some X.n],X.H ++ [c],t',n'⟩ N) : X.liveN N := by
  obtain ⟨i,d,h1,h2,h3⟩ := h
  have h1 : (X.ns ++ [some X.n])[i]? = some (some N) := h1
  have h2 : (X.H ++ [c])[i]? = some d := h2
  by_cases hi : i < X.H.length
  · rw [List.getElem?_append_left hi] at h2
    rw [List.getElem?_append_left (hr.len ▸ hi)] at h1
    exact ⟨i,d,h1,h2,h3⟩
  · have hi' : X.ns.length ≤ i := by rw [hr.len]; omega
    rw [List.getElem?_append_right hi'] at h1
    obtain ⟨h5,h6⟩ := List.getElem?_eq_some_iff.1 h1
    simp at h5
    simp [h5] at h6
    omega
theorem laid_cells {X : Env U} (hr : HRel S X) {e : TypeId} {vs : List (SV U)} {ws : List Value} (hd : DenL S X vs ws) : Laid S X (.ptr (lenH X.H) 0) (snoc X.H (.cells false e vs)) (.pointer (some ⟨X.n,0,none⟩)) (.cells ws e 0) := by
  intro t' h1 h2
  rw [snoc_eq,lenH_eq]
  obtain ⟨g1,g2⟩ := hr.lay (c := .cells false e vs) h2 fun X' hL ht hn _ => ⟨X.n,ws,rfl,by rw [ht]; exact h1,hd.later hL,by omega,fun h => by cases h⟩
  refine ⟨.ptr ?_ .nil,g1,g2,fun N hN hl => lay_live hr hN hl⟩
  show (X.ns ++ [some X.n])[X.H.length]? = _
  rw [← hr.len]; simp
theorem laid_list {X : Env U} (hr : HRel S X) {ex : Bool} {e : TypeId} {c : Nat} {l : List (U c)} {css : List (List Value)} (p : Pieces S X l css) (h0 : l.length < END) {v : Value} (hv : olVal (some X.n) ex l.length (S.k c) v) : Laid S X (.ol (lenH X.H)) (snoc X.H (.list false ex e c l)) v (.cells css.flatten e 0) := by
  intro t' h1 h2
  rw [snoc_eq,lenH_eq]
  obtain ⟨g1,g2⟩ := hr.lay (c := .list false ex e c l) h2 fun X' hL ht hn _ => (p.later hL).con h0 (by rw [ht]; exact h1) (by omega) (fun h => by cases h)
  refine ⟨?_,g1,g2,fun N hN hl => lay_live hr hN hl⟩
  unfold olVal at hv
  subst hv
  refine .ol ?_ .nil
  unfold olDen
  have e1 : (X.H ++ [Con.list false ex e c l])[X.H.length]? = some (.list false ex e c l) := by simp
  simp only [e1]
  refine ⟨some X.n,?_,rfl⟩
  rw [← hr.len]; simp
theorem Laid.ghost {X : Env U} {H1 H' : Hp U} {sv : SV U} {v : Value} {blk : Blk} (g : Ghost S X H1) (h : Laid S (X.setH H1) sv H' v blk) : Laid S X sv H' v blk := by
  intro t' h1 h2
  obtain ⟨k1,k2,k3,k4⟩ := h t' h1 h2
  exact ⟨k1,g.later.trans k2,k3,fun N hN hl => g.live N (k4 N hN hl)⟩
theorem flat_rep {k : Nat} {z : List Value} : ∀ n,Ev.rep n z = (List.replicate n z).flatten
  | 0 => rfl
  | n + 1 => by rw [List.replicate_succ,List.flatten_cons,← flat_rep n (k := k)]; rfl
theorem lay_sound (ok : SysOk T S) {X : Env U} (hr : HRel S X) {F : Frm U} {fr : Fr} (hF : FrmOk S X F fr.tmps) {o : Op} {K : SV U → Hp U → Prop} (h : layStep S F X.H o K) :
    ∃ sv H' v vs e,K sv H' ∧ Laid S X sv H' v (.cells vs e 0) ∧ ∀ s : St,s.next = X.n → evPlain T fr.eval o s = some (v,{ s with t := s.t.set s.next (some (.cells vs e 0)),next := s.next + 1 }) := by
  unfold layStep at h
  split at h
  · rename_i e
    cases hz : Nat.beq (lenL (S.zero e)) 0 with
    | true => rw [hz] at h; exact h.elim
    | false =>
      rw [hz] at h
      obtain ⟨z,z1,z2⟩ := ok.zero e (by intro e'; rw [e'] at hz; cases hz)
      refine ⟨_,_,_,_,e,h,laid_cells hr (z2 X),fun s hs => ?_⟩
      rw [← hs]
      exact p_alloc z1 rfl
  · rename_i e x
    obtain ⟨hc,hK⟩ := bif_true h
    have hne : evo F x ≠ .undef := by intro e; rw [e] at hc; cases hc
    refine ⟨_,_,_,_,e,hK,laid_cells hr (cellsOf_den (evo_den hF x) hne),fun s hs => ?_⟩
    rw [← hs]
    exact p_box rfl
  · rename_i t n ps
    split at h
    · rename_i e hd
      obtain ⟨hc,hK⟩ := bif_true h
      obtain ⟨hc,hc4⟩ := and_tt hc
      obtain ⟨hc,hc3⟩ := and_tt hc
      obtain ⟨hc1,hc2⟩ := and_tt hc
      have hk := beq_nat hc1
      have hn := nbeq_nat hc2
      have hz0 := beq_nat hc3
      have hle := Nat.le_of_ble_eq_true hc4
      have hu := ok.slice t e hd
      have hsz := (ok.size e hn).1
      obtain ⟨z,z1,z2⟩ := ok.zero e (by intro e'; rw [e'] at hz0; exact hn hz0.symm)
      have hzl : (cellsOf z).length = S.size e := by rw [(z2 X).len,← lenL_eq,hz0]
      obtain ⟨l,H',vs,k1,k2,k3,k4,k5⟩ := elems_sound ok hr hF hK
      have hvl : vs.length = n := by omega
      have hll : l.length = n := by rw [← k3.1,List.length_map,hvl]
      have hE : (16777216 : Nat) < END := by decide
      have hlt : n < END := by
        refine Nat.lt_of_le_of_lt (Nat.le_trans ?_ hle) hE
        exact Nat.le_mul_of_pos_right n (Nat.pos_of_ne_zero hn)
      refine ⟨_,_,.slice (some ⟨X.n,0,none⟩) n n,(vs.map cellsOf).flatten,e,k1,Laid.ghost k2 (laid_list k2.rel k3 (by rw [hll]; exact hlt) (by rw [hll]; rfl)),fun s hs => ?_⟩
      unfold evPlain
      simp only
      unfold Ev.buildSlice
      have hzz : zeros T e n = some (rep n (cellsOf z)) := by unfold zeros; rw [z1,hsz]; simp only [hzl,if_true]
      simp only [hu,hsz,hzz]
      by_cases h0 : n = 0
      · subst h0
        have hvs : vs = [] := List.length_eq_zero_iff.1 hvl
        subst hvs
        rw [if_neg (by omega),if_pos ⟨rfl,k5⟩,hs]
        simp only [bnd,newB,ret,List.map_nil,List.flatten_nil,hs]
      · rw [if_pos ⟨Nat.pos_of_ne_zero hn,Nat.pos_of_ne_zero h0,hle⟩,k5]
        have hrl : (rep n (cellsOf z)).length = n * S.size e := by
          rw [flat_rep (k := 0),flat_length (k := S.size e) (fun d hd => by rw [List.eq_of_mem_replicate hd]; exact hzl),List.length_replicate]
        have hfs := fill_seq (k := S.size e) vs 0 [] (rep n (cellsOf z)) (by simp) (fun c hc => by
          have := k3.all (cellsOf c) (List.mem_map.2 ⟨c,hc,rfl⟩); rw [this,hk]) (by rw [hvl,hrl]; exact Nat.le_refl _)
        rw [List.nil_append] at hfs
        rw [hfs]
        have hdr : (rep n (cellsOf z)).drop (vs.length * S.size e) = [] := by rw [hvl]; exact List.drop_eq_nil_of_le (by rw [hrl]; exact Nat.le_refl _)
        simp only [bnd,newB,ret,hdr,List.append_nil,List.nil_append,hs]
    · exact h.elim
  · rename_i t l c
    split at h
    · rename_i e ka a kb b hd ha hb
      have ea := int_inv (by have := evo_den hF l; rw [ha] at this; exact this)
      have eb := int_inv (by have := evo_den hF c; rw [hb] at this; exact this)
      obtain ⟨hc,hK⟩ := bif_true h
      obtain ⟨hc,hc4⟩ := and_tt hc
      obtain ⟨hc,hc3⟩ := and_tt hc
      obtain ⟨hc1,hc2⟩ := and_tt hc
      have hk := beq_nat hc1
      have hn := nbeq_nat hc2
      have hz0 := beq_nat hc3
      have hb0 := nbeq_nat hc4
      have hu := ok.slice t e hd
      have hsz := (ok.size e hn).1
      obtain ⟨z,z1,z2⟩ := ok.zero e (by intro e'; rw [e'] at hz0; exact hn hz0.symm)
      have hzl : (cellsOf z).length = S.size e := by rw [(z2 X).len,← lenL_eq,hz0]
      split at hK
      · rename_i zz hzz
        obtain ⟨hq,hK⟩ := hK
        obtain ⟨hab,h0,hB⟩ := hq.out
        subst hab
        have hbm : a ≤ S.bytes e * a := by
          have : (1 : Int) * a ≤ (S.bytes e : Int) * a := Int.mul_le_mul_of_nonneg_right (by omega) h0
          omega
        have hE : (140737488355328 : Int) < (END : Nat) := by decide
        have hp : Pieces S X (List.replicate a.toNat zz) (List.replicate a.toNat (cellsOf z)) := by
          refine ⟨by simp,fun j x cs h1 h2 => ?_⟩
          rw [List.getElem?_replicate] at h1 h2
          split at h1
          · rename_i hj
            rw [if_pos hj] at h2
            cases h1; cases h2
            exact ⟨by rw [hzl,hk],ok.of _ _ _ hzz _ _ (z2 X)⟩
          · cases h1
        refine ⟨_,_,.slice (some ⟨X.n,0,none⟩) a.toNat a.toNat,_,e,hK,laid_list hr hp (by simp; omega) (by simp [olVal]),fun s hs => ?_⟩
        unfold evPlain
        simp only
        unfold Ev.makeSlice
        have hzs : zeros T e a.toNat = some (rep a.toNat (cellsOf z)) := by unfold zeros; rw [z1,hsz]; simp only [hzl,if_true]
        simp only [hu,ea,eb,Ev.asInt,ok.bytes e hb0,hzs]
        rw [if_pos ⟨h0,Int.le_refl _,by omega,hB⟩]
        simp only [bnd,newB,ret,hs,flat_rep (k := 0)]
      · exact hK.elim
    · exact h.elim
  · exact h.elim
end Go.Sx

/-
  SX, PART J: appends, stores, conversions.
-/
namespace Go.Sx
open Go Go.Ev Go.RowKit
variable {U : Nat → Type} {T : Tab} {S : Sys U}
theorem castL_ex {c d : Nat} {l : List (U c)} {K : List (U d) → Prop} (h : castL l K) : ∃ e : c = d,K (e ▸ l) := by
  unfold castL at h
  split at h
  · rename_i e _
    subst e
    exact ⟨rfl,h⟩
  · exact h.elim
theorem list_sound {X : Env U} (hr : HRel S X) (ok : SysOk T S) {c : Nat} (hk : S.k c ≠ 0) {v : SV U} {w : Value} {K : List (U c) → Prop} (h : listOf X.H c v K) (hw : Den S X v w) :
    ∃ l css,K l ∧ Pieces S X l css ∧ l.length < END ∧ lenOf w = some l.length ∧ (∀ s : St,s.t = X.t → firstCells l.length (S.k c) w s = some (css.flatten,s)) ∧ ∃ a cap,w = .slice a l.length cap := by
  have key : ∀ (l : List (U c)) (a : Option Addr) (cap N o : Nat) (ws : List Value) (e hi : Nat) (cs : Nat → List Value),(l ≠ [] → a = some ⟨N,o,none⟩ ∧ X.t.get N = some (.cells ws e hi)) → (l = [] → a = none ∨ ∃ M p,a = some ⟨M,p,none⟩) → (∀ j x,l[j]? = some x → Ev.slice ws (o + j * S.k c) (S.k c) = some (cs j)) → (∀ j x,l[j]? = some x → DenL S X (S.cells c x) (cs j)) →
      ∃ css,Pieces S X l css ∧ ∀ s : St,s.t = X.t → firstCells l.length (S.k c) (.slice a l.length cap) s = some (css.flatten,s) := by
    intro l a cap N o ws e hi cs h1 h0 h2 h3
    by_cases hl : l = []
    · subst hl
      refine ⟨[],Pieces.nil,fun s hs => ?_⟩
      rcases h0 rfl with rfl | ⟨M,p,rfl⟩
      · rfl
      · unfold firstCells; simp; rfl
    · obtain ⟨rfl,hN⟩ := h1 hl
      have hx : ∀ j,j < l.length → ∃ x,l[j]? = some x := fun j hj => ⟨l[j],List.getElem?_eq_getElem hj⟩
      obtain ⟨flat,f1,f2,f3⟩ := chunks (m := l.length) (Nat.pos_of_ne_zero hk) fun j hj => by obtain ⟨x,hx⟩ := hx j hj; exact h2 j x hx
      refine ⟨(List.range l.length).map cs,⟨by simp,fun j x ds g1 g2 => ?_⟩,fun s hs => ?_⟩
      · have hj := (List.getElem?_eq_some_iff.1 g1).1
        rw [List.getElem?_map,List.getElem?_range hj] at g2
        cases g2
        exact ⟨(slice_some (h2 j x g1)).2,h3 j x g1⟩
      · have hfl : ((List.range l.length).map cs).flatten = flat := by
          have hlen : ((List.range l.length).map cs).flatten.length = l.length * S.k c := by
            rw [flat_length (k := S.k c) (fun d hd => by
              obtain ⟨j,hj,rfl⟩ := List.mem_map.1 hd
              obtain ⟨x,hx⟩ := hx j (List.mem_range.1 hj)
              exact (slice_some (h2 j x hx)).2)]
            simp
          apply List.ext_getElem?
          intro p
          by_cases hp : p < l.length * S.k c
          · have hkp := Nat.pos_of_ne_zero hk
            have hj : p / S.k c < l.length := by rw [Nat.div_lt_iff_lt_mul hkp]; exact hp
            have hm := Nat.mod_lt p hkp
            have e1 := slice_one (f3 _ hj) hm
            have e2 := slice_one (flat_at (k := S.k c) ((List.range l.length).map cs) (p / S.k c) (cs (p / S.k c)) (fun d hd => by
              obtain ⟨j,hj,rfl⟩ := List.mem_map.1 hd
              obtain ⟨x,hx⟩ := hx j (List.mem_range.1 hj)
              exact (slice_some (h2 j x hx)).2) (by rw [List.getElem?_map,List.getElem?_range hj]; rfl)) hm
            have e3 : p / S.k c * S.k c + p % S.k c = p := by rw [Nat.mul_comm]; exact Nat.div_add_mod p _
            rw [e3] at e1 e2
            rw [e1,e2]
          · rw [List.getElem?_eq_none (by omega),List.getElem?_eq_none (by omega)]
        have hl0 : l.length ≠ 0 := fun h => hl (List.length_eq_zero_iff.1 h)
        unfold firstCells
        simp only [if_neg hl0,Nat.le_refl,if_true,bnd,rowOf,hs,hN,f1,lift,hfl]
  unfold listOf at h
  split at h
  · have : w = .slice none 0 0 := by cases hw; rfl
    subst this
    exact ⟨[],[],h,Pieces.nil,Nat.zero_lt_succ _,rfl,fun s hs => rfl,none,0,rfl⟩
  · obtain ⟨e,hK⟩ := castL_ex h
    subst e
    obtain ⟨a,cap,N,o,ws,e,hi,cs,rfl,q0,q1,q2,q3,q4⟩ := sl_inv hw
    rename_i d
    by_cases hd : d = []
    · subst hd
      exact ⟨[],[],hK,Pieces.nil,Nat.zero_lt_succ _,rfl,fun s hs => by rcases q0.1 with rfl | ⟨M,p,rfl⟩ <;> rfl,a,cap,rfl⟩
    · obtain ⟨css,p,hf⟩ := key d a cap N o ws e hi cs (fun h => ⟨(q1 h).1,(q1 h).2.1⟩) (fun h => absurd h hd) q2 q3
      exact ⟨d,css,hK,p,q4,rfl,hf,a,cap,rfl⟩
  · rename_i i
    split at h
    · rename_i fz ex e c' l hcon
      obtain ⟨ec,hK⟩ := castL_ex h
      subst ec
      obtain ⟨N,hN,hv⟩ := olDen_list hw hcon
      have hok := hr.ok i _ N (conAt_get hcon (by simp)) hN
      obtain ⟨h0,hok⟩ := hok
      cases N with
      | none =>
        obtain ⟨hl,a,rfl,ha⟩ := hv
        have : l = [] := List.length_eq_zero_iff.1 hl
        subst this
        refine ⟨[],[],hK,Pieces.nil,Nat.zero_lt_succ _,rfl,fun s hs => ?_,a,0,rfl⟩
        rcases ha with rfl | ⟨M,rfl⟩ <;> rfl
      | some M =>
        obtain ⟨ws,cs,k1,k2,k3,k4,k5,k6⟩ := hok
        unfold olVal at hv
        subst hv
        obtain ⟨css,p,hf⟩ := key l _ (if ex = true then l.length else END + S.k c') M 0 ws e 0 cs (fun h => ⟨rfl,k1⟩) (fun h => .inr ⟨M,0,rfl⟩) (fun j x hx => by rw [Nat.zero_add]; exact k3 j x hx) k4
        exact ⟨l,css,hK,p,h0,rfl,hf,_,_,rfl⟩
    · exact h.elim
  · rename_i i lo n
    split at h
    · rename_i fz ex e c' l hcon
      obtain ⟨ec,hK⟩ := castL_ex h
      subst ec
      obtain ⟨N,hN,hle,hv⟩ := oslDen_list hw hcon
      have hok := hr.ok i _ N (conAt_get hcon (by simp)) hN
      obtain ⟨h0,hok⟩ := hok
      have hlen : ((l.drop lo).take n).length = n := by simp; omega
      cases N with
      | none =>
        obtain ⟨rfl,a,rfl,ha⟩ := hv
        obtain ⟨rfl,_⟩ := hok
        refine ⟨_,[],hK,⟨by rw [hlen]; rfl,fun j x cs h => by simp at h⟩,by rw [hlen]; exact Nat.zero_lt_succ _,by rw [hlen]; rfl,fun s hs => ?_,a,0,by rw [hlen]⟩
        rw [hlen]
        rcases ha with rfl | ⟨M,rfl⟩ <;> rfl
      | some M =>
        obtain ⟨ws,cs,k1,k2,k3,k4,k5,k6⟩ := hok
        subst hv
        have hget : ∀ {j : Nat} {y : U c'},((l.drop lo).take n)[j]? = some y → l[lo + j]? = some y := fun {j y} hj => by
          rw [List.getElem?_take] at hj
          split at hj
          · rw [List.getElem?_drop] at hj; exact hj
          · cases hj
        obtain ⟨css,p,hf⟩ := key ((l.drop lo).take n) _ (if ex = true then l.length - lo else END + S.k c') M (lo * S.k c') ws e 0 (fun j => cs (lo + j)) (fun h => ⟨rfl,k1⟩) (fun h => .inr ⟨M,_,rfl⟩) (fun j x hx => by have := k3 _ x (hget hx); rw [Nat.add_mul] at this; exact this) (fun j x hx => k4 _ x (hget hx))
        refine ⟨_,css,hK,p,by rw [hlen]; omega,by rw [hlen]; rfl,fun s hs => ?_,_,_,by rw [hlen]⟩
        have := hf s hs
        rw [hlen] at this ⊢
        exact this
    · exact h.elim
  · exact h.elim
end Go.Sx

/-
  SX, PART K: appends.
-/
namespace Go.Sx
open Go Go.Ev Go.RowKit
variable {U : Nat → Type} {T : Tab} {S : Sys U}
def BigOk (S : Sys U) (X : Env U) (w : Bool) (K : SV U → Hp U → Prop) (run : M Value) : Prop := ∀ s : St,s.t = X.t → s.next = X.n → ∃ sv H' v s' ns' d,K sv H' ∧ run s = some (v,s') ∧ Den S ⟨X.wb,X.ns ++ ns',H',s'.t,s'.next⟩ sv v ∧ Step S X s ⟨X.wb,X.ns ++ ns',H',s'.t,s'.next⟩ s' d ∧ (∀ N ∈ d,(s.t.get N).isSome = true) ∧ (w = false → d = [])
theorem Laid.run {X : Env U} {K : SV U → Hp U → Prop} {run : M Value} {sv : SV U} {H' : Hp U} {v : Value} {vs : List Value} {e : TypeId} (hK : K sv H') (h : Laid S X sv H' v (.cells vs e 0)) (hrun : ∀ s : St,s.t = X.t → s.next = X.n → run s = some (v,{ s with t := s.t.set s.next (some (.cells vs e 0)),next := s.next + 1 })) (s : St) (h1 : s.t = X.t) (h2 : s.next = X.n) : ∃ s',K sv H' ∧ run s = some (v,s') ∧ Den S ⟨X.wb,X.ns ++ [some X.n],H',s'.t,s'.next⟩ sv v ∧ Step S X s ⟨X.wb,X.ns ++ [some X.n],H',s'.t,s'.next⟩ s' [] := by
  obtain ⟨k1,k2,k3,k4⟩ := h (s.t.set s.next (some (.cells vs e 0))) (by rw [h2]; exact Tree.get_set_same _ _ _) (fun M hM => by rw [h2,h1]; exact Tree.get_set_ne _ _ hM)
  refine ⟨_,hK,hrun s h1 h2,?_,⟨rfl,rfl,rfl,?_,?_,Nat.le_succ _,fun N hN hl => ?_,rfl,(fun _ h => by cases h),fun N hN _ => Tree.get_set_ne _ _ (Nat.ne_of_lt hN),List.prefix_append _ _⟩⟩
  · show Den S ⟨X.wb,X.ns ++ [some X.n],H',s.t.set s.next (some (.cells vs e 0)),s.next + 1⟩ sv v
    rw [h2] at k1 ⊢; exact k1
  · show HRel S ⟨X.wb,X.ns ++ [some X.n],H',s.t.set s.next (some (.cells vs e 0)),s.next + 1⟩
    rw [h2] at k3 ⊢; exact k3
  · show Later X ⟨X.wb,X.ns ++ [some X.n],H',s.t.set s.next (some (.cells vs e 0)),s.next + 1⟩
    rw [h2] at k2 ⊢; exact k2
  · have hl : Env.liveN ⟨X.wb,X.ns ++ [some X.n],H',s.t.set s.next (some (.cells vs e 0)),s.next + 1⟩ N := hl
    rw [h2] at hN hl k4; exact k4 N hN hl
theorem Laid.big {w0 : Bool} {X : Env U} {K : SV U → Hp U → Prop} {run : M Value} {sv : SV U} {H' : Hp U} {v : Value} {vs : List Value} {e : TypeId} (hK : K sv H') (h : Laid S X sv H' v (.cells vs e 0)) (hrun : ∀ s : St,s.t = X.t → s.next = X.n → run s = some (v,{ s with t := s.t.set s.next (some (.cells vs e 0)),next := s.next + 1 })) : BigOk S X w0 K run := by
  intro s h1 h2
  obtain ⟨s',k1,k2,k3,k4⟩ := Laid.run hK h hrun s h1 h2
  exact ⟨sv,H',v,s',_,[],k1,k2,k3,k4,(fun _ h => by cases h),fun _ => rfl⟩
theorem Step.refl {X : Env U} (hr : HRel S X) {s : St} (h1 : s.t = X.t) (h2 : s.next = X.n) : Step S X s X s [] :=
  ⟨rfl,h1.symm,h2.symm,hr,Later.refl X,Nat.le_refl _,fun _ _ h => h,rfl,(fun _ h => by cases h),fun _ _ _ => rfl,List.prefix_refl _⟩
theorem app_empty {X : Env U} (hr : HRel S X) {c : Nat} {e : TypeId} {H' : Hp U} {a : Option Addr} (ha : a = none ∨ ∃ N,a = some ⟨N,0,none⟩) {s : St} (h1 : s.t = X.t) (h2 : s.next = X.n) (hH : H' = X.H ++ [.list false false e c []]) :
    Den S ⟨X.wb,X.ns ++ [none],H',s.t,s.next⟩ (.ol X.H.length) (.slice a 0 0) ∧ Step S X s ⟨X.wb,X.ns ++ [none],H',s.t,s.next⟩ s [] := by
  subst hH
  have cases' : ∀ (i : Nat) (N : Option Nat),(X.ns ++ [none])[i]? = some N → X.ns[i]? = some N ∧ i < X.H.length ∨ i = X.H.length ∧ N = none := by
    intro i N h
    by_cases hi : i < X.H.length
    · rw [List.getElem?_append_left (hr.len ▸ hi)] at h; exact .inl ⟨h,hi⟩
    · right
      have hi' : X.ns.length ≤ i := by rw [hr.len]; omega
      rw [List.getElem?_append_right hi'] at h
      obtain ⟨h5,h6⟩ := List.getElem?_eq_some_iff.1 h
      simp at h5
      simp [h5] at h6
      exact ⟨by rw [hr.len] at hi' h5; omega,h6.symm⟩
  have hlive : ∀ (i : Nat) c',(X.H ++ [Con.list false false e c []])[i]? = some c' → c'.live = true → ∀ N,(X.ns ++ [none])[i]? = some (some N) → X.liveN N := by
    intro i c' k1 k2 N k3
    rcases cases' i _ k3 with ⟨h3,h4⟩ | ⟨_,h4⟩
    · rw [List.getElem?_append_left h4] at k1; exact ⟨i,c',h3,k1,k2⟩
    · cases h4
  have hL : Later X ⟨X.wb,X.ns ++ [none],X.H ++ [.list false false e c []],s.t,s.next⟩ := Later.of (fun i d h => ⟨d,by rw [List.getElem?_append_left (List.getElem?_eq_some_iff.1 h).1]; exact h,Same.refl _⟩) (fun i c' k1 k2 N k3 _ => hlive i c' k1 k2 N k3) (fun N _ _ => by rw [h1]) (by omega)
  refine ⟨.ol ?_ .nil,rfl,rfl,rfl,⟨by simp [hr.len],fun i d N k1 k2 => ?_,fun i j N k1 k2 => ?_,fun i N k => ?_,fun N hN => h2 ▸ hr.wbl N hN⟩,hL,Nat.le_refl _,fun N hN hl => ?_,rfl,(fun _ h => by cases h),fun _ _ _ => rfl,List.prefix_append _ _⟩
  · unfold olDen
    have e1 : (X.H ++ [Con.list false false e c []])[X.H.length]? = some (.list false false e c []) := by simp
    simp only [e1]
    exact ⟨none,by rw [← hr.len]; simp,rfl,a,rfl,ha⟩
  · rcases cases' i N k2 with ⟨h3,h4⟩ | ⟨h3,h4⟩
    · have k1 : (X.H ++ [Con.list false false e c []])[i]? = some d := k1
      rw [List.getElem?_append_left h4] at k1
      exact (hr.ok i d N k1 h3).later hL fun M _ => by show s.t.get M = _; rw [h1]
    · have k1 : (X.H ++ [Con.list false false e c []])[i]? = some d := k1
      subst h3 h4
      simp at k1
      subst k1
      exact ⟨Nat.zero_lt_succ _,rfl,rfl⟩
  · rcases cases' i _ k1 with ⟨h3,h4⟩ | ⟨h3,h4⟩ <;> rcases cases' j _ k2 with ⟨h5,h6⟩ | ⟨h5,h6⟩
    · exact hr.inj i j N h3 h5
    · cases h6
    · cases h4
    · cases h4
  · rcases cases' i _ k with ⟨h3,h4⟩ | ⟨h3,h4⟩
    · exact ⟨h2 ▸ (hr.lt i N h3).1,(hr.lt i N h3).2⟩
    · cases h4
  · obtain ⟨i,c',k1,k2,k3⟩ := hl
    exact hlive i c' k2 k3 N k1
theorem Pieces.ones (ok : SysOk T S) {X : Env U} {c : Nat} {l : List (U c)} {css : List (List Value)} (p : Pieces S X l css) : ∀ w ∈ css.flatten,oneCell w = true := by
  intro w hw
  obtain ⟨d,hd,hw⟩ := List.mem_flatten.1 hw
  obtain ⟨j,hj⟩ := List.getElem?_of_mem hd
  have hl : j < l.length := p.1 ▸ (List.getElem?_eq_some_iff.1 hj).1
  obtain ⟨_,h2⟩ := p.2 j _ d (List.getElem?_eq_getElem hl) hj
  exact ones_den h2 (ok.cells c _).2 w hw
theorem Pieces.flen {X : Env U} {c : Nat} {l : List (U c)} {css : List (List Value)} (p : Pieces S X l css) : css.flatten.length = l.length * S.k c := by rw [flat_length p.all,p.1]
structure AppT (T : Tab) (S : Sys U) (e : TypeId) : Prop where
  k : S.size e = S.k (S.ty e)
  n : S.size e ≠ 0
  b : S.bytes e ≠ 0
  z : ∃ z,T.zero e = some z ∧ (cellsOf z).length = S.size e
  sz : T.size e = some (S.size e)
  bt : T.bytes e = some (S.bytes e)
  lt : S.size e < END
theorem app_new {w0 : Bool} {X : Env U} (hr : HRel S X) {e : TypeId} (A : AppT T S e) {l1 l2 : List (U (S.ty e))} {css1 css2 : List (List Value)} (p1 : Pieces S X l1 css1) (p2 : Pieces S X l2 css2) {K : SV U → Hp U → Prop} (h : appK S e l1 l2 X.H K) {w x : Value} {a : Option Addr} {cap : Nat}
    (hw : w = .slice a l1.length cap) (hcap : cap < END) (hc : ¬ l1.length + l2.length ≤ cap) (hx : lenOf x = some l2.length) (hx2 : ∀ s : St,s.t = X.t → firstCells l2.length (S.k (S.ty e)) x s = some (css2.flatten,s)) (hw2 : ∀ s : St,s.t = X.t → firstCells l1.length (S.k (S.ty e)) w s = some (css1.flatten,s)) : BigOk S X w0 K (appendOf T e a l1.length cap x) := by
  obtain ⟨hb,hK⟩ := h
  have hb := hb.out
  obtain ⟨z,z1,z2⟩ := A.z
  have p := p1.app p2
  have hbpos := Nat.pos_of_ne_zero A.b
  have hlt : l1.length + l2.length < END := by
    have : l1.length + l2.length ≤ (l1.length + l2.length) * S.bytes e := Nat.le_mul_of_pos_right _ hbpos
    have hE : (140737488355328 : Nat) < END := by decide
    omega
  refine Laid.big hK (laid_list hr p (by simpa using hlt) (v := .slice (some ⟨X.n,0,none⟩) (l1.length + l2.length) (END + S.size e)) (by unfold olVal; rw [List.length_append,A.k]; rfl)) fun s h1 h2 => ?_
  unfold appendOf
  simp only [A.sz,A.bt,z1,hx,bnd,lift]
  rw [A.k,hx2 s h1]
  simp only
  rw [if_neg (by omega),if_neg hc]
  unfold appendNew
  rw [← hw]
  simp only [bnd,hw2 s h1]
  rw [if_pos ⟨by rw [← A.k]; exact Nat.pos_of_ne_zero A.n,by rw [← A.k]; exact A.lt,hb,hlt,p2.flen,p1.flen,by rw [z2,A.k]⟩]
  simp only [bnd,newB,ret,List.flatten_append,h2]
theorem app_nil {w0 : Bool} {X : Env U} (hr : HRel S X) {e : TypeId} (A : AppT T S e) {l2 : List (U (S.ty e))} {css2 : List (List Value)} (p2 : Pieces S X l2 css2) {K : SV U → Hp U → Prop} (h : appK S e [] l2 X.H K) {x : Value} {a : Option Addr} (ha : a = none ∨ ∃ N,a = some ⟨N,0,none⟩)
    (hx : lenOf x = some l2.length) (hx2 : ∀ s : St,s.t = X.t → firstCells l2.length (S.k (S.ty e)) x s = some (css2.flatten,s)) : BigOk S X w0 K (appendOf T e a 0 0 x) := by
  by_cases h0 : l2 = []
  · subst h0
    intro s h1 h2
    obtain ⟨_,hK⟩ := h
    rw [lenH_eq,snoc_eq] at hK
    obtain ⟨z,z1,z2⟩ := A.z
    obtain ⟨g1,g2⟩ := app_empty (S := S) hr (c := S.ty e) (e := e) ha h1 h2 rfl
    refine ⟨_,_,_,s,[none],[],hK,?_,g1,g2,(fun _ h => by cases h),fun _ => rfl⟩
    have hc0 : css2 = [] := List.length_eq_zero_iff.1 (by rw [p2.1]; rfl)
    subst hc0
    unfold appendOf
    simp only [A.sz,A.bt,z1,hx,bnd,lift]
    rw [A.k,hx2 s h1]
    simp only
    rw [if_neg (by decide),if_pos (by simp)]
    rcases ha with rfl | ⟨N,rfl⟩
    · rfl
    · rfl
  · have : l2.length ≠ 0 := fun h => h0 (List.length_eq_zero_iff.1 h)
    exact app_new hr A Pieces.nil p2 h (w := .slice a 0 0) rfl (by decide) (by simp; omega) hx hx2 fun s hs => by rcases ha with rfl | ⟨N,rfl⟩ <;> rfl
theorem app_grown {X : Env U} (hr : HRel S X) {e : TypeId} (A : AppT T S e) {i M : Nat} {l1 l2 : List (U (S.ty e))} (ok : SysOk T S) {css2 : List (List Value)} (hi : X.H[i]? = some (.list false false e (S.ty e) l1)) (hM : X.ns[i]? = some (some M)) {n : Nat} (hn : n ≤ l1.length) (p2 : Pieces S X l2 css2) {K : SV U → Hp U → Prop} (h : appK S e (l1.take n) l2 (X.H.set i .dead) K) {x : Value}
    (hx : lenOf x = some l2.length) (hx2 : ∀ s : St,s.t = X.t → firstCells l2.length (S.k (S.ty e)) x s = some (css2.flatten,s)) : BigOk S X true K (appendOf T e (some ⟨M,0,none⟩) n (END + S.size e) x) := by
  have hl0 : (l1.take n).length = n := by simp; omega
  obtain ⟨hb,hK⟩ := h
  have hb := hb.out
  obtain ⟨z,z1,z2⟩ := A.z
  obtain ⟨h0,ws,cs,k1,k2,k3,k4,k5,_⟩ := hr.ok i _ _ hi hM
  have hkpos : 0 < S.k (S.ty e) := by rw [← A.k]; exact Nat.pos_of_ne_zero A.n
  have hgr : ∀ j,j < n → Ev.slice ws (0 + j * S.k (S.ty e)) (S.k (S.ty e)) = some (cs j) := fun j hj => by rw [Nat.zero_add]; exact k3 j _ (List.getElem?_eq_getElem (by omega))
  have p1 : Pieces S X (l1.take n) ((List.range n).map cs) := ⟨by rw [hl0]; simp,fun j x ds g1 g2 => by
    have hj : j < n := by have := (List.getElem?_eq_some_iff.1 g1).1; omega
    rw [List.getElem?_take,if_pos hj] at g1
    rw [List.getElem?_map,List.getElem?_range hj] at g2
    cases g2
    exact ⟨(slice_some (k3 j x g1)).2,k4 j x g1⟩⟩
  have hkn : n * S.k (S.ty e) ≤ l1.length * S.k (S.ty e) := Nat.mul_le_mul_right _ hn
  have hws : ((List.range n).map cs).flatten = ws.take (n * S.k (S.ty e)) := by
    apply List.ext_getElem?
    intro p
    by_cases hp : p < n * S.k (S.ty e)
    · have hj : p / S.k (S.ty e) < n := by rw [Nat.div_lt_iff_lt_mul hkpos]; exact hp
      have hm := Nat.mod_lt p hkpos
      have e1 := slice_one (hgr _ hj) hm
      have e2 := slice_one (flat_at _ (p / S.k (S.ty e)) (cs (p / S.k (S.ty e))) p1.all (by rw [List.getElem?_map,List.getElem?_range hj]; rfl)) hm
      have e3 : p / S.k (S.ty e) * S.k (S.ty e) + p % S.k (S.ty e) = p := by rw [Nat.mul_comm]; exact Nat.div_add_mod p _
      rw [Nat.zero_add,e3] at e1
      rw [e3] at e2
      rw [e2,List.getElem?_take,if_pos hp,e1]
    · rw [List.getElem?_eq_none (by rw [p1.flen,hl0]; omega),List.getElem?_eq_none (by simp; omega)]
  have hbpos := Nat.pos_of_ne_zero A.b
  rw [hl0] at hb
  have hlt : n + l2.length < END := by
    have : n + l2.length ≤ (n + l2.length) * S.bytes e := Nat.le_mul_of_pos_right _ hbpos
    have hE : (140737488355328 : Nat) < END := by decide
    omega
  obtain ⟨L1,R1⟩ := hr.put (c' := .dead) (t' := X.t.set M none) hi hM rfl Same.dead (fun N hN => Tree.get_set_ne _ _ hN) (fun _ _ _ _ _ => trivial)
  have p : Pieces S ⟨X.wb,X.ns,X.H.set i .dead,X.t.set M none,X.n⟩ ((l1.take n) ++ l2) (((List.range n).map cs) ++ css2) := (p1.app p2).later L1
  have hlaid := laid_list (ex := false) (e := e) R1 p (by rw [List.length_append,hl0]; exact hlt) (v := .slice (some ⟨X.n,0,none⟩) (n + l2.length) (END + S.size e)) (by unfold olVal; rw [List.length_append,hl0,A.k]; rfl)
  rw [List.flatten_append,hws] at hlaid
  intro s h1 h2
  have hMn := (hr.lt i M hM).1
  have hdel : delB M s = some ((),{ s with t := s.t.set M none,mods := M :: s.mods }) := by unfold delB; rw [h1,k1]
  obtain ⟨q1,q2,q3,q4⟩ := hlaid ((s.t.set M none).set s.next (some (.cells (ws.take (n * S.k (S.ty e)) ++ css2.flatten) e 0))) (by show Tree.get _ X.n = _; rw [h2]; exact Tree.get_set_same _ _ _) (fun N hN => by
    show Tree.get _ N = (X.t.set M none).get N
    rw [h2,h1]; exact Tree.get_set_ne _ _ hN)
  refine ⟨_,_,.slice (some ⟨X.n,0,none⟩) (n + l2.length) (END + S.size e),{ s with t := (s.t.set M none).set s.next (some (.cells (ws.take (n * S.k (S.ty e)) ++ css2.flatten) e 0)),next := s.next + 1,mods := M :: s.mods },[some X.n],[M],hK,?_,?_,⟨rfl,rfl,rfl,?_,?_,Nat.le_succ _,fun N hN hl => ?_,rfl,fun N hN => ?_,fun N hN hne => ?_,List.prefix_append _ _⟩,fun N hN => ?_,fun h => by cases h⟩
  · unfold appendOf
    simp only [A.sz,A.bt,z1,hx,bnd,lift]
    rw [A.k,hx2 s h1]
    simp only
    rw [if_pos (by omega)]
    simp only [if_true]
    unfold appendEnd
    have hold : Ev.slice ws 0 (n * S.k (S.ty e)) = some (ws.take (n * S.k (S.ty e))) := by rw [slice_of (by omega),List.drop_zero]
    simp only [bnd,rowOf,h1,k1,hold,lift]
    have hall : css2.flatten.all oneCell = true := List.all_eq_true.2 (p2.ones ok)
    rw [if_pos ⟨trivial,hkpos,by rw [← A.k]; exact A.lt,by decide,Nat.zero_le _,hb,hlt,hall,p2.flen,by rw [z2,A.k],by simp⟩]
    have hdel' : delB M s = some ((),{ s with t := X.t.set M none,mods := M :: s.mods }) := by rw [hdel,h1]
    simp only [bnd,hdel',newB,ret,h2,h1,Nat.sub_zero,A.k]
  · show Den S ⟨X.wb,X.ns ++ [some X.n],_,(s.t.set M none).set s.next (some (.cells (ws.take (n * S.k (S.ty e)) ++ css2.flatten) e 0)),s.next + 1⟩ _ _
    rw [h2] at q1 ⊢; exact q1
  · show HRel S ⟨X.wb,X.ns ++ [some X.n],_,(s.t.set M none).set s.next (some (.cells (ws.take (n * S.k (S.ty e)) ++ css2.flatten) e 0)),s.next + 1⟩
    rw [h2] at q3 ⊢; exact q3
  · show Later X ⟨X.wb,X.ns ++ [some X.n],_,(s.t.set M none).set s.next (some (.cells (ws.take (n * S.k (S.ty e)) ++ css2.flatten) e 0)),s.next + 1⟩
    rw [h2] at q2 ⊢; exact L1.trans q2
  · rw [h2] at hN
    have := q4 N hN (by rw [h2] at hl ⊢; exact hl)
    obtain ⟨j,cj,g1,g2,g3⟩ := this
    have g2 : (X.H.set i .dead)[j]? = some cj := g2
    by_cases e' : i = j
    · subst e'
      rw [List.getElem?_set_self (List.getElem?_eq_some_iff.1 hi).1] at g2; cases g2; cases g3
    · rw [List.getElem?_set_ne e'] at g2; exact ⟨j,cj,g1,g2,g3⟩
  · have := List.mem_singleton.1 hN
    subst this
    exact ⟨by omega,i,_,hM,hi,rfl⟩
  · have : N ≠ M := fun e => hne (by simp [e])
    show ((s.t.set M none).set s.next _).get N = _
    rw [Tree.get_set_ne _ _ (Nat.ne_of_lt hN),Tree.get_set_ne _ _ this]
  · have := List.mem_singleton.1 hN
    subst this
    rw [h1,k1]; rfl
end Go.Sx

/-
  SX, PART L: stores, conversions, appends, as operations.
-/
namespace Go.Sx
open Go Go.Ev Go.RowKit
variable {U : Nat → Type} {T : Tab} {S : Sys U}
theorem putAt_len : ∀ (ws : List Value) (p : Nat) (c : List Value),p + c.length ≤ ws.length → (putAt ws p c).length = ws.length
  | ws,p,[],_ => by cases ws <;> cases p <;> rfl
  | [],p,c :: cs,h => by simp at h
  | w :: ws,0,c :: cs,h => by simp [putAt,putAt_len ws 0 cs (by simpa using h)]
  | w :: ws,p + 1,c :: cs,h => by simp [putAt,putAt_len ws p (c :: cs) (by simp at h ⊢; omega)]
theorem putAt_get : ∀ (ws : List Value) (p : Nat) (c : List Value) (q : Nat),p + c.length ≤ ws.length → (putAt ws p c)[q]? = if p ≤ q ∧ q < p + c.length then c[q - p]? else ws[q]?
  | ws,p,[],q,_ => by
    rw [if_neg (by simp)]
    cases ws <;> cases p <;> rfl
  | [],p,c :: cs,q,h => by simp at h
  | w :: ws,0,c :: cs,0,h => by simp [putAt]
  | w :: ws,0,c :: cs,q + 1,h => by
    simp only [putAt,List.getElem?_cons_succ]
    rw [putAt_get ws 0 cs q (by simpa using h)]
    simp
  | w :: ws,p + 1,c :: cs,0,h => by simp [putAt]
  | w :: ws,p + 1,c :: cs,q + 1,h => by
    simp only [putAt,List.getElem?_cons_succ]
    rw [putAt_get ws p (c :: cs) q (by simp at h ⊢; omega)]
    simp only [Nat.add_le_add_iff_right,Nat.add_sub_add_right,List.length_cons]
    by_cases h1 : p ≤ q ∧ q < p + (cs.length + 1)
    · rw [if_pos h1,if_pos ⟨h1.1,by omega⟩]
    · rw [if_neg h1,if_neg (by omega)]
theorem slice_ext {ws cs : List Value} {o n : Nat} (hl : cs.length = n) (hw : o + n ≤ ws.length) (h : ∀ q,q < n → ws[o + q]? = cs[q]?) : Ev.slice ws o n = some cs := by
  rw [slice_of hw]
  congr 1
  apply List.ext_getElem?
  intro q
  rw [List.getElem?_take]
  by_cases hq : q < n
  · rw [if_pos hq,List.getElem?_drop]; exact h q hq
  · rw [if_neg hq,List.getElem?_eq_none (by omega)]
theorem storeVar_run {t : TypeId} {v : Value} {N p : Nat} {ws cs : List Value} {e : TypeId} {s : St} (hz : T.size t = some cs.length) (hv : cellsOf v = cs) (h0 : cs ≠ []) (hN : s.t.get N = some (.cells ws e 0)) (hp : p + cs.length ≤ ws.length) (h1 : cs.all oneCell = true) :
    Ev.storeVar T t N p v s = some ((),{ s with t := s.t.set N (some (.cells (putAt ws p cs) e 0)),mods := N :: s.mods }) := by
  unfold Ev.storeVar
  rw [hz,hv]
  simp only [if_true]
  unfold Ev.storeCells
  cases hcs : cs with
  | nil => exact absurd hcs h0
  | cons c0 cr =>
    simp only [bnd,rowOf,hN]
    rw [← hcs,if_pos ⟨by decide,Nat.zero_le _,hp,h1⟩]
    simp only [setB,hN]
theorem put_step {X : Env U} (hr : HRel S X) {i N : Nat} {c c' : Con U} {s : St} {b : Blk} (h1 : s.t = X.t) (h2 : s.next = X.n) (hi : X.H[i]? = some c) (hN : X.ns[i]? = some (some N)) (hc : c.live = true) (hc' : c'.live = true) (hs : Same c c') (hb : (X.t.get N).isSome = true)
    (ho : ∀ X' : Env U,Later X X' → X'.t.get N = some b → X'.n = X.n → ConOk S X' (some N) c') : Step S X s ⟨X.wb,X.ns ++ [],X.H.set i c',s.t.set N (some b),s.next⟩ { s with t := s.t.set N (some b),mods := N :: s.mods } [N] ∧ ∀ M ∈ [N],(s.t.get M).isSome = true := by
  obtain ⟨g1,g2⟩ := hr.put (c' := c') (t' := X.t.set N (some b)) hi hN hc hs (fun M hM => Tree.get_set_ne _ _ hM) (fun X' hL ht hn _ => ho X' hL (by rw [ht]; exact Tree.get_set_same _ _ _) hn)
  rw [List.append_nil]
  refine ⟨⟨rfl,rfl,rfl,by rw [h1,h2]; exact g2,by rw [h1,h2]; exact g1,Nat.le_refl _,fun M hM hl => ?_,rfl,fun M hM => ?_,fun M hM hne => Tree.get_set_ne _ _ (fun e => hne (by simp [e])),List.prefix_refl _⟩,fun M hM => ?_⟩
  · obtain ⟨j,d,k1,k2,k3⟩ := hl
    by_cases e : i = j
    · subst e
      have k1 : X.ns[i]? = some (some M) := k1
      exact ⟨i,c,k1,hi,hc⟩
    · have k2 : (X.H.set i c')[j]? = some d := k2
      rw [List.getElem?_set_ne e] at k2
      exact ⟨j,d,k1,k2,k3⟩
  · have := List.mem_singleton.1 hM
    subst this
    exact ⟨h2 ▸ (hr.lt i M hN).1,i,c,hN,hi,hc⟩
  · have := List.mem_singleton.1 hM
    subst this
    rw [h1]; exact hb
theorem BigOk.ghost {w0 : Bool} {X : Env U} {H1 : Hp U} (g : Ghost S X H1) {K : SV U → Hp U → Prop} {run : M Value} (h : BigOk S (X.setH H1) w0 K run) : BigOk S X w0 K run := by
  intro s h1 h2
  obtain ⟨sv,H',v,s',ns',d,k1,k2,k3,k4,k5⟩ := h s h1 h2
  exact ⟨sv,H',v,s',ns',d,k1,k2,k3,⟨rfl,rfl,rfl,k4.rel,g.later.trans k4.later,k4.next,fun N hN hl => g.live N (k4.live N hN hl),k4.mods,fun N hN => ⟨(k4.dl N hN).1,g.live N (k4.dl N hN).2⟩,k4.old,k4.ns⟩,k5⟩
theorem oneL_ones {l : List (SV U)} (h : oneL l = true) : ∀ v ∈ l,one v = true := List.all_eq_true.1 h
theorem ones_all {X : Env U} {l : List (SV U)} {cs : List Value} (hd : DenL S X l cs) (h : oneL l = true) : cs.all oneCell = true := List.all_eq_true.2 (ones_den hd (oneL_ones h))
theorem store_sound (ok : SysOk T S) {C : FuncId → Option (Spec U)} {X : Env U} (hr : HRel S X) {F : Frm U} {fr : Fr} (hF : FrmOk S X F fr.tmps) {t : TypeId} {a x : Operand} {K : SV U → Hp U → Prop} (h : bigStep S C F X.H (.store t a x) K) : BigOk S X true K (evPlain T fr.eval (.store t a x)) := by
  have ha := evo_den hF a
  have hx := evo_den hF x
  simp only [bigStep] at h
  split at h
  · rename_i i o he
    rw [he] at ha
    obtain ⟨N,hN,hw⟩ := ptr_inv ha
    split at h
    · rename_i e vs hcon
      have hi := conAt_get hcon (by simp)
      obtain ⟨hc,hK⟩ := bif_true h
      obtain ⟨hc,hc5⟩ := and_tt hc
      obtain ⟨hc,hc4⟩ := and_tt hc
      obtain ⟨hc,hc3⟩ := and_tt hc
      obtain ⟨hc1,hc2⟩ := and_tt hc
      have hne : evo F x ≠ .undef := by intro e; rw [e] at hc1; cases hc1
      have hcs := cellsOf_den hx hne
      have hn := nbeq_nat hc3
      have hsz := (ok.size t hn).1
      have hlen : (cellsOf (fr.eval x)).length = S.size t := by rw [hcs.len,← lenL_eq]; exact beq_nat hc2
      obtain ⟨M,ws,e1,e2,e3,e4,_⟩ := hr.ok i _ _ hi hN
      cases e1
      have hp : o + (cellsOf (fr.eval x)).length ≤ ws.length := by
        have := Nat.le_of_ble_eq_true hc4
        rw [lenL_eq,← e3.len] at this
        rw [hlen]; exact this
      intro s h1 h2
      obtain ⟨g1,g2⟩ := put_step (c' := .cells false e (putL vs o (cellsSV (evo F x)))) (b := .cells (putAt ws o (cellsOf (fr.eval x))) e 0) hr h1 h2 hi hN rfl rfl Same.cells (by rw [e2]; rfl) fun X' hL hb hn => ⟨N,_,rfl,hb,DenL.put o (e3.later hL) (hcs.later hL),by omega,fun h => by cases h⟩
      refine ⟨_,_,undef,{ s with t := s.t.set N (some (.cells (putAt ws o (cellsOf (fr.eval x))) e 0)),mods := N :: s.mods },[],[N],hK,?_,?_,by rw [setC_eq]; exact g1,g2,fun h => by cases h⟩
      · unfold evPlain
        simp only [bnd,hw,addr,ret]
        rw [storeVar_run (ws := ws) (e := e) (by rw [hlen]; exact hsz) rfl (by intro e; rw [e] at hlen; exact hn hlen.symm) (by rw [h1]; exact e2) hp (ones_all hcs hc5)]
      · exact .undef .nil
    · exact h.elim
  · rename_i i j o he
    rw [he] at ha
    obtain ⟨N,p,hw,hq⟩ := olp_inv ha
    split at h
    · rename_i ex e c l hcon
      have hi := conAt_get hcon (by simp)
      unfold olpDen at hq
      rw [hi] at hq
      obtain ⟨hN,rfl⟩ := hq
      obtain ⟨hc,hK⟩ := bif_true h
      obtain ⟨hc,hc5⟩ := and_tt hc
      obtain ⟨hc,hc4⟩ := and_tt hc
      obtain ⟨hc,hc3⟩ := and_tt hc
      obtain ⟨hc1,hc2⟩ := and_tt hc
      obtain ⟨hj,hK⟩ := hK
      have hj := hj.out
      have hne : evo F x ≠ .undef := by intro e; rw [e] at hc1; cases hc1
      have hcs := cellsOf_den hx hne
      have hn := nbeq_nat hc3
      have hsz := (ok.size t hn).1
      have hlen : (cellsOf (fr.eval x)).length = S.size t := by rw [hcs.len,← lenL_eq]; exact beq_nat hc2
      have hy : l[j]? = some l[j] := List.getElem?_eq_getElem hj
      have hK := hK _ hy
      split at hK
      · rename_i z hz
        obtain ⟨h0,ws,cs,e2,e3,e4,e5,e6,_⟩ := hr.ok i _ _ hi hN
        have hk4 : o + S.size t ≤ S.k c := Nat.le_of_ble_eq_true hc4
        have hkp : S.k c ≠ 0 := by omega
        have hjs := e4 _ _ hy
        have hjl := slice_lt hjs hkp
        have hcj : (cs j).length = S.k c := (slice_some hjs).2
        have hzd : DenL S X (S.cells c z) (putAt (cs j) o (cellsOf (fr.eval x))) := ok.of c _ z hz X _ (DenL.put o (e5 _ _ hy) hcs)
        have hpl : j * S.k c + o + (cellsOf (fr.eval x)).length ≤ ws.length := by omega
        have hget := putAt_get ws (j * S.k c + o) (cellsOf (fr.eval x))
        intro s h1 h2
        obtain ⟨g1,g2⟩ := put_step (c' := .list false ex e c (l.set j z)) (b := .cells (putAt ws (j * S.k c + o) (cellsOf (fr.eval x))) e 0) hr h1 h2 hi hN rfl rfl (Same.list (by simp)) (by rw [e2]; rfl) fun X' hL hb hn => by
          refine ⟨by simpa using h0,_,fun q => if q = j then putAt (cs j) o (cellsOf (fr.eval x)) else cs q,hb,by rw [putAt_len _ _ _ hpl,e3,List.length_set],fun q y hqy => ?_,fun q y hqy => ?_,by omega,fun h => by cases h⟩
          · by_cases hqj : q = j
            · subst hqj
              simp only [if_true]
              refine slice_ext (by rw [putAt_len _ _ _ (by omega)]; exact hcj) (by rw [putAt_len _ _ _ hpl]; omega) fun p hp => ?_
              rw [hget _ hpl,putAt_get _ _ _ _ (by omega)]
              by_cases hin : o ≤ p ∧ p < o + (cellsOf (fr.eval x)).length
              · rw [if_pos ⟨by omega,by omega⟩,if_pos hin]; congr 1; omega
              · rw [if_neg (by omega),if_neg hin]; exact slice_one hjs hp
            · simp only [if_neg hqj]
              rw [List.getElem?_set_ne (fun h => hqj h.symm)] at hqy
              have hqs := e4 _ _ hqy
              have hql := slice_lt hqs hkp
              refine slice_ext (slice_some hqs).2 (by rw [putAt_len _ _ _ hpl]; exact hql) fun p hp => ?_
              rw [hget _ hpl]
              have hne2 : ¬ (j * S.k c + o ≤ q * S.k c + p ∧ q * S.k c + p < j * S.k c + o + (cellsOf (fr.eval x)).length) := by
                intro ⟨a1,a2⟩
                rcases Nat.lt_or_ge q j with hlt | hge
                · have : q * S.k c + S.k c ≤ j * S.k c := by rw [← Nat.succ_mul]; exact Nat.mul_le_mul_right _ hlt
                  omega
                · have : j * S.k c + S.k c ≤ q * S.k c := by rw [← Nat.succ_mul]; exact Nat.mul_le_mul_right _ (by omega)
                  omega
              rw [if_neg hne2]; exact slice_one hqs hp
          · by_cases hqj : q = j
            · subst hqj
              rw [List.getElem?_set_self hj] at hqy
              cases hqy
              simp only [if_true]; exact hzd.later hL
            · simp only [if_neg hqj]
              rw [List.getElem?_set_ne (fun h => hqj h.symm)] at hqy
              exact (e5 _ _ hqy).later hL
        refine ⟨_,_,undef,{ s with t := s.t.set N (some (.cells (putAt ws (j * S.k c + o) (cellsOf (fr.eval x))) e 0)),mods := N :: s.mods },[],[N],hK,?_,?_,by rw [setC_eq]; exact g1,g2,fun h => by cases h⟩
        · unfold evPlain
          simp only [bnd,hw,addr,ret]
          rw [storeVar_run (ws := ws) (e := e) (by rw [hlen]; exact hsz) rfl (by intro e; rw [e] at hlen; exact hn hlen.symm) (by rw [h1]; exact e2) hpl (ones_all hcs hc5)]
        · exact .undef .nil
      · exact hK.elim
    · exact h.elim
  · exact h.elim
theorem convert_sound (ok : SysOk T S) {C : FuncId → Option (Spec U)} {X : Env U} {F : Frm U} {fr : Fr} (hF : FrmOk S X F fr.tmps) {a b : TypeId} {x : Operand} {K : SV U → Hp U → Prop} (h : bigStep S C F X.H (.convert a b x) K) : ∃ sv v,K sv X.H ∧ Den S X sv v ∧ ∀ s,evPlain T fr.eval (.convert a b x) s = some (v,s) := by
  have hx := evo_den hF x
  simp only [bigStep] at h
  split at h
  · rename_i k k' q n hd1 hd2 he
    rw [he] at hx
    have e := int_inv hx
    exact ⟨_,_,arith_ex h,.int .nil,fun s => by unfold evPlain; simp only; unfold Ev.convert; simp only [ok.int a _ hd1,ok.int b _ hd2]; unfold convertD; simp only [e]; rfl⟩
  · rename_i q hd1 hd2 he
    rw [he] at hx
    have e := str_inv hx
    exact ⟨_,_,h,.str .nil,fun s => by unfold evPlain; simp only; unfold Ev.convert; simp only [ok.str a hd1,ok.str b hd2]; unfold convertD; simp only [e]; rfl⟩
  · exact h.elim
theorem castL_same {c : Nat} {l : List (U c)} {K : List (U c) → Prop} (h : K l) : castL l K := by
  unfold castL
  split
  · exact h
  · rename_i h0 _; exact absurd rfl h0
theorem copy_sound (ok : SysOk T S) {C : FuncId → Option (Spec U)} {X : Env U} (hr : HRel S X) {F : Frm U} {fr : Fr} (hF : FrmOk S X F fr.tmps) {a : Array Operand} {ts : Array TypeId} {K : SV U → Hp U → Prop} (h : bigStep S C F X.H (.call ⟨.builtin .copy,a,ts⟩) K) : BigOk S X true K (evPlain T fr.eval (.call ⟨.builtin .copy,a,ts⟩)) := by
  simp only [bigStep] at h
  split at h
  · rename_i x y t tr hA hT
    have hx := evo_den hF x
    have hy := evo_den hF y
    split at h
    · rename_i e hd1
      split at h
      · rename_i i he
        rw [he] at hx
        split at h
        · rename_i ex e' c l1 hcon
          obtain ⟨hc,hK⟩ := bif_true h
          obtain ⟨hc1,hc2⟩ := and_tt hc
          have hk := beq_nat hc1
          have hn := nbeq_nat hc2
          have hkc : S.k c ≠ 0 := by rw [← hk]; exact hn
          have hsz := (ok.size e hn).1
          obtain ⟨l2,css,⟨hq,hK⟩,p2,h0,hlo,hfirst,_⟩ := list_sound hr ok hkc hK hy
          have hlen := hq.out
          obtain ⟨N,hN,hv⟩ := olDen_list hx hcon
          have run : ∀ (b : Option Addr) (m cap : Nat),fr.eval x = .slice b m cap → evPlain T fr.eval (.call ⟨.builtin .copy,a,ts⟩) = bnd (firstCells (Nat.min l2.length m) (S.size e) (fr.eval y)) fun cells => match b with
              | none => ret (goInt (Nat.min l2.length m))
              | some ⟨N,o,none⟩ => bnd (Ev.storeCells N o cells) fun _ => ret (goInt (Nat.min l2.length m))
              | _ => fail := by
            intro b m cap hw
            unfold evPlain
            simp only
            unfold Ev.builtin
            simp only [hA,hT,List.map_cons,List.map_nil]
            unfold Ev.copy
            simp only [ok.slice t e hd1,hlo,hsz,hw]
            rfl
          have hHi := conAt_get hcon (by simp)
          by_cases hl : l1 = []
          · -- nothing is copied
            subst hl
            have hl2 : l2 = [] := List.length_eq_zero_iff.1 hlen
            subst hl2
            obtain ⟨b,cap,hb,_⟩ := olVal_len hv
            intro s h1 h2
            have hH : setC X.H i (.list false ex e' c []) = X.H := by
              rw [setC_eq]
              apply List.ext_getElem?
              intro j
              by_cases hj : i = j
              · subst hj
                rw [List.getElem?_set_self (List.getElem?_eq_some_iff.1 hHi).1]; exact hHi.symm
              · rw [List.getElem?_set_ne hj]
            have hm : Nat.min ([] : List (U c)).length ([] : List (U c)).length = 0 := rfl
            have hf := hfirst s h1
            have hXe : (⟨X.wb,X.ns ++ [],X.H,s.t,s.next⟩ : Env U) = X := by rw [List.append_nil,h1,h2]
            have hbn : b = none ∨ ∃ N,b = some ⟨N,0,none⟩ := by
              unfold olVal at hv
              split at hv
              · rw [hb] at hv; cases hv; exact .inr ⟨_,rfl⟩
              · obtain ⟨_,a',h,h'⟩ := hv; rw [hb] at h; cases h; exact h'
            refine ⟨_,_,goInt 0,s,[],[],hK,?_,by rw [hH,hXe]; exact .int .nil,by rw [hH,hXe]; exact Step.refl hr h1 h2,(fun _ h => by cases h),fun h => by cases h⟩
            rw [run _ _ _ hb,hm]
            have hz : css.flatten = [] := List.length_eq_zero_iff.1 (by rw [p2.flen]; simp)
            have hf' : firstCells 0 (S.size e) (fr.eval y) s = some ([],s) := by rw [hk,← hz]; exact hf
            simp only [bnd,hf']
            rcases hbn with rfl | ⟨N,rfl⟩
            · rfl
            · rfl
          · have hm0 : l1.length ≠ 0 := fun h => hl (List.length_eq_zero_iff.1 h)
            obtain ⟨b,cap,hb,hb2⟩ := olVal_len hv
            obtain ⟨M,hM,rfl⟩ := hb2 hm0
            subst hM
            obtain ⟨g0,ws,cs,e2,e3,e4,e5,e6,_⟩ := hr.ok i _ _ hHi hN
            have hwl : css.flatten.length = ws.length := by rw [p2.flen,e3,hlen]
            have hput : putAt ws 0 css.flatten = css.flatten := by
              rw [putAt_zero _ _ (by omega),hwl,List.drop_length,List.append_nil]
            have hne : css.flatten ≠ [] := by
              intro h
              rw [h] at hwl
              rw [e3] at hwl
              have : 0 < l1.length * S.k c := Nat.mul_pos (by omega) (by omega)
              simp at hwl
              omega
            intro s h1 h2
            obtain ⟨g1,g2⟩ := put_step (c' := .list false ex e' c l2) (b := .cells css.flatten e' 0) hr h1 h2 hHi hN rfl rfl (Same.list hlen.symm) (by rw [e2]; rfl) fun X' hL hb hn =>
              (p2.later hL).con h0 hb (by omega) (fun h => by cases h)
            refine ⟨_,_,goInt l1.length,{ s with t := s.t.set M (some (.cells css.flatten e' 0)),mods := M :: s.mods },[],[M],hK,?_,.int .nil,by rw [setC_eq]; exact g1,g2,fun h => by cases h⟩
            have hmin : Nat.min l2.length l1.length = l1.length := by rw [hlen]; exact Nat.min_self _
            rw [run _ _ _ hb,hmin]
            have hf' : firstCells l1.length (S.size e) (fr.eval y) s = some (css.flatten,s) := by rw [hk,← hlen]; exact hfirst s h1
            have hst : Ev.storeCells M 0 css.flatten s = some ((),{ s with t := s.t.set M (some (.cells css.flatten e' 0)),mods := M :: s.mods }) := by
              have hg : s.t.get M = some (.cells ws e' 0) := by rw [h1]; exact e2
              have hall : css.flatten.all oneCell = true := List.all_eq_true.2 (p2.ones ok)
              unfold Ev.storeCells
              cases hcs : css.flatten with
              | nil => exact absurd hcs hne
              | cons c0 cr =>
                rw [← hcs]
                simp only [bnd,rowOf,hg]
                rw [if_pos ⟨by decide,Nat.le_refl _,by omega,hall⟩]
                simp only [setB,hg,hput]
            simp only [bnd,hf',hst,ret]
        · exact h.elim
      · exact h.elim
    · exact h.elim
  · exact h.elim
theorem dead_ghost {X : Env U} (hr : HRel S X) {i : Nat} {c : Con U} (hi : X.H[i]? = some c) : Ghost S X (X.H.set i .dead) := by
  have hlive : ∀ N,(X.setH (X.H.set i .dead)).liveN N → X.liveN N := by
    intro N hN'
    obtain ⟨j,c',g1,g2,g3⟩ := hN'
    have g2 : (X.H.set i .dead)[j]? = some c' := g2
    by_cases e : i = j
    · subst e; rw [List.getElem?_set_self (List.getElem?_eq_some_iff.1 hi).1] at g2; cases g2; cases g3
    · rw [List.getElem?_set_ne e] at g2; exact ⟨j,c',g1,g2,g3⟩
  have hL : Later X (X.setH (X.H.set i .dead)) := by
    have := Later.of (X := X) (ns' := []) (H' := X.H.set i .dead) (t' := X.t) (n' := X.n) (fun j d h => ?_) (fun j d h1 h2 M h3 _ => hlive M ⟨j,d,by rw [List.append_nil] at h3; exact h3,h1,h2⟩) (fun M hM hf => rfl) (Nat.le_refl _)
    · rw [List.append_nil] at this; exact this
    · by_cases e : i = j
      · subst e
        exact ⟨.dead,by rw [List.getElem?_set_self (List.getElem?_eq_some_iff.1 hi).1],Same.dead⟩
      · exact ⟨d,by rw [List.getElem?_set_ne e]; exact h,Same.refl _⟩
  refine ⟨hL,⟨by show X.ns.length = (X.H.set i .dead).length; rw [List.length_set]; exact hr.len,fun j c' M g1 g2 => ?_,hr.inj,hr.lt,hr.wbl⟩,hlive⟩
  have g1 : (X.H.set i .dead)[j]? = some c' := g1
  by_cases e : i = j
  · subst e; rw [List.getElem?_set_self (List.getElem?_eq_some_iff.1 hi).1] at g1; cases g1; trivial
  · rw [List.getElem?_set_ne e] at g1; exact (hr.ok j c' M g1 g2).later hL fun _ _ => rfl
theorem append_sound (ok : SysOk T S) (hsz : ∀ e,S.size e < END) {C : FuncId → Option (Spec U)} {X : Env U} (hr : HRel S X) {F : Frm U} {fr : Fr} (hF : FrmOk S X F fr.tmps) {a : Array Operand} {ts : Array TypeId} {K : SV U → Hp U → Prop} (h : bigStep S C F X.H (.call ⟨.builtin .append,a,ts⟩) K) : BigOk S X (writes C F X.H (.call ⟨.builtin .append,a,ts⟩)) K (evPlain T fr.eval (.call ⟨.builtin .append,a,ts⟩)) := by
  simp only [bigStep] at h
  split at h
  · rename_i x y t u hA hT
    have hx := evo_den hF x
    have hy := evo_den hF y
    split at h
    · rename_i e e2 hd1 hd2
      obtain ⟨hc,hK⟩ := bif_true h
      obtain ⟨hc,hc4⟩ := and_tt hc
      obtain ⟨hc,hc3⟩ := and_tt hc
      obtain ⟨hc1,hc2⟩ := and_tt hc
      have hk := beq_nat hc1
      have hn := nbeq_nat hc2
      have hz0 := beq_nat hc3
      have hb0 := nbeq_nat hc4
      obtain ⟨z,z1,z2⟩ := ok.zero e (by intro e'; rw [e'] at hz0; exact hn hz0.symm)
      have A : AppT T S e := ⟨hk,hn,hb0,⟨z,z1,by rw [(z2 X).len,← lenL_eq,hz0]⟩,(ok.size e hn).1,ok.bytes e hb0,hsz e⟩
      have hkc : S.k (S.ty e) ≠ 0 := by rw [← hk]; exact hn
      have run : ∀ (b : Option Addr) (m cap : Nat),fr.eval x = .slice b m cap → evPlain T fr.eval (.call ⟨.builtin .append,a,ts⟩) = appendOf T e b m cap (fr.eval y) := by
        intro b m cap hw
        unfold evPlain
        simp only
        unfold Ev.builtin
        simp only [hA,hT,List.map_cons,List.map_nil]
        unfold Ev.append
        simp only [ok.slice t e hd1,ok.slice u e2 hd2,Option.map_some,appendable,hw]
      unfold appS at hK
      split at hK
      · rename_i he
        rw [he] at hx
        have hw : fr.eval x = .slice none 0 0 := by generalize fr.eval x = w at hx; cases hx; rfl
        obtain ⟨l2,css2,k1,k2,k3,k4,k5,_⟩ := list_sound hr ok hkc hK hy
        rw [run _ _ _ hw]
        exact app_nil hr A k2 k1 (.inl rfl) k4 k5
      · rename_i i he
        rw [he] at hx
        split at hK
        · rename_i e' d l1 hcon
          cases hb : !Nat.beq e' e with
          | true => rw [hb] at hK; exact hK.elim
          | false =>
            rw [hb] at hK
            have he' : e' = e := by
              cases hb' : Nat.beq e' e with
              | true => exact beq_nat hb'
              | false => rw [hb'] at hb; cases hb
            subst he'
            obtain ⟨ed,hK⟩ := castL_ex hK
            subst ed
            obtain ⟨l2,css2,k1,k2,k3,k4,k5,_⟩ := list_sound hr ok hkc hK hy
            obtain ⟨N,hN,hv⟩ := olDen_list hx hcon
            have hi := conAt_get hcon (by simp)
            rw [setC_eq] at k1
            cases N with
            | some M =>
              unfold olVal at hv
              rw [run _ _ _ hv]
              rw [if_neg (by decide),← hk]
              rw [show writes C F X.H (.call ⟨.builtin .append,a,ts⟩) = true by simp only [writes,hA,he,hcon]]
              exact app_grown hr A ok hi hN (Nat.le_refl _) k2 (by rw [List.take_length]; exact k1) k4 k5
            | none =>
              obtain ⟨hl,b,hv,hb⟩ := hv
              have : l1 = [] := List.length_eq_zero_iff.1 hl
              subst this
              rw [run _ _ _ hv]
              have G := dead_ghost hr hi
              exact BigOk.ghost G (app_nil (X := X.setH (X.H.set i .dead)) G.rel A (k2.later G.later) k1 hb k4 k5)
        · rename_i fz e' d l1 hcon
          obtain ⟨ed,hK⟩ := castL_ex hK
          subst ed
          obtain ⟨l2,css2,k1,k2,k3,k4,k5,_⟩ := list_sound hr ok hkc hK hy
          obtain ⟨N,hN,hv⟩ := olDen_list hx hcon
          have hi := conAt_get hcon (by simp)
          obtain ⟨l1',css1,q1,q2,q3,q4,q5,_⟩ := list_sound (K := fun l => l = l1) hr ok hkc (v := .ol i) (by simp only [listOf,hcon]; exact castL_same rfl) hx
          subst q1
          cases N with
          | none =>
            have hok := hr.ok i _ none hi hN
            exact absurd hok.2.2 (by decide)
          | some M =>
            unfold olVal at hv
            rw [if_pos rfl] at hv
            cases hc : isNilL l1' || !isNilL l2 with
            | false => rw [hc] at k1; exact k1.elim
            | true =>
              rw [hc] at k1
              rw [run _ _ _ hv]
              by_cases h0 : l1' = []
              · subst h0
                exact app_nil hr A k2 k1 (.inr ⟨M,rfl⟩) k4 k5
              · have hl2 : l2.length ≠ 0 := by
                  intro h0'
                  have : l2 = [] := List.length_eq_zero_iff.1 h0'
                  subst this
                  cases l1' with
                  | nil => exact h0 rfl
                  | cons _ _ => cases hc
                exact app_new hr A q2 k2 k1 (w := fr.eval x) hv q3 (by omega) k4 k5 fun s hs => q5 s hs
        · exact hK.elim
      · rename_i i lo n he
        rw [he] at hx
        split at hK
        · rename_i e' d l1 hcon
          cases hb : !Nat.beq e' e with
          | true => rw [hb] at hK; exact hK.elim
          | false =>
            rw [hb] at hK
            have he' : e' = e := by
              cases hb' : Nat.beq e' e with
              | true => exact beq_nat hb'
              | false => rw [hb'] at hb; cases hb
            subst he'
            obtain ⟨ed,hK⟩ := castL_ex hK
            subst ed
            obtain ⟨l2,css2,⟨hlo,k1⟩,k2,k3,k4,k5,_⟩ := list_sound hr ok hkc hK hy
            have hlo := hlo.out
            subst hlo
            obtain ⟨N,hN,hle,hv⟩ := oslDen_list hx hcon
            have hi := conAt_get hcon (by simp)
            rw [setC_eq] at k1
            cases N with
            | some M =>
              simp only [Nat.zero_mul] at hv
              rw [if_neg (by decide)] at hv
              rw [run _ _ _ hv,← hk]
              rw [show writes C F X.H (.call ⟨.builtin .append,a,ts⟩) = true by simp only [writes,hA,he]]
              exact app_grown hr A ok hi hN (by omega) k2 k1 k4 k5
            | none =>
              obtain ⟨rfl,b,hv,hb⟩ := hv
              rw [List.take_zero] at k1
              rw [run _ _ _ hv]
              have G := dead_ghost hr hi
              exact BigOk.ghost G (app_nil (X := X.setH (X.H.set i .dead)) G.rel A (k2.later G.later) k1 hb k4 k5)
        · exact hK.elim
      · exact hK.elim
    · exact h.elim
  · exact h.elim
theorem clear_sound (ok : SysOk T S) {C : FuncId → Option (Spec U)} {X : Env U} (hr : HRel S X) {F : Frm U} {fr : Fr} (hF : FrmOk S X F fr.tmps) {a : Array Operand} {ts : Array TypeId} {K : SV U → Hp U → Prop} (h : bigStep S C F X.H (.call ⟨.builtin .clear,a,ts⟩) K) : BigOk S X true K (evPlain T fr.eval (.call ⟨.builtin .clear,a,ts⟩)) := by
  simp only [bigStep] at h
  split at h
  · rename_i x t hA hT
    have hx := evo_den hF x
    split at h
    · rename_i e hd
      have run : ∀ (w : Value),fr.eval x = w → evPlain T fr.eval (.call ⟨.builtin .clear,a,ts⟩) = Ev.clear T [t] [w] := by
        intro w hw
        unfold evPlain
        simp only
        unfold Ev.builtin
        simp only [hA,hT,List.map_cons,List.map_nil,hw]
      split at h
      · rename_i he
        rw [he] at hx
        have hw : fr.eval x = .slice none 0 0 := by generalize fr.eval x = w at hx; cases hx; rfl
        intro s h1 h2
        have hXe : (⟨X.wb,X.ns ++ [],X.H,s.t,s.next⟩ : Env U) = X := by rw [List.append_nil,h1,h2]
        refine ⟨_,_,.tuple #[],s,[],[],h,?_,by rw [hXe]; exact .tup .nil .nil,by rw [hXe]; exact Step.refl hr h1 h2,(fun _ h => by cases h),fun h => by cases h⟩
        rw [run _ hw]
        unfold Ev.clear
        simp only [ok.slice t e hd]; rfl
      · rename_i i lo n he
        rw [he] at hx
        split at h
        · rename_i ex e' c l hcon
          obtain ⟨hc,h⟩ := bif_true h
          obtain ⟨hc,hc3⟩ := and_tt hc
          obtain ⟨hc1,hc2⟩ := and_tt hc
          have hk := beq_nat hc1
          have hn := nbeq_nat hc2
          have hz0 := beq_nat hc3
          have hsz := (ok.size e hn).1
          obtain ⟨z,z1,z2⟩ := ok.zero e (by intro e'; rw [e'] at hz0; exact hn hz0.symm)
          have hzl : (cellsOf z).length = S.size e := by rw [(z2 X).len,← lenL_eq,hz0]
          split at h
          · rename_i zz hzz
            obtain ⟨N,hN,hle,hv⟩ := oslDen_list hx hcon
            have hHi := conAt_get hcon (by simp)
            have hzd : ∀ X' : Env U,DenL S X' (S.cells c zz) (cellsOf z) := fun X' => ok.of _ _ _ hzz _ _ (z2 X')
            by_cases hn0 : n = 0
            · subst hn0
              intro s h1 h2
              have hXe : (⟨X.wb,X.ns ++ [],X.H,s.t,s.next⟩ : Env U) = X := by rw [List.append_nil,h1,h2]
              have hH : setC X.H i (.list false ex e' c (l.take lo ++ (List.replicate 0 zz ++ l.drop (lo + 0)))) = X.H := by
                rw [setC_eq,List.replicate_zero,List.nil_append,Nat.add_zero,List.take_append_drop]
                apply List.ext_getElem?
                intro j
                by_cases hj : i = j
                · subst hj
                  rw [List.getElem?_set_self (List.getElem?_eq_some_iff.1 hHi).1]; exact hHi.symm
                · rw [List.getElem?_set_ne hj]
              obtain ⟨a',cap',hw,_⟩ := oslVal_len (⟨hle,hv⟩ : oslVal N ex l.length (S.k c) lo 0 _)
              refine ⟨_,_,.tuple #[],s,[],[],h,?_,by rw [hH,hXe]; exact .tup .nil .nil,by rw [hH,hXe]; exact Step.refl hr h1 h2,(fun _ h => by cases h),fun h => by cases h⟩
              rw [run _ hw]
              unfold Ev.clear
              simp only [ok.slice t e hd]
              cases a' with
              | none => rfl
              | some _ => rfl
            · cases N with
              | none => exact absurd hv.1 hn0
              | some M =>
                obtain ⟨g0,ws,cs,e2,e3,e4,e5,e6,_⟩ := hr.ok i _ _ hHi hN
                have hkpos : 0 < S.k c := by rw [← hk]; exact Nat.pos_of_ne_zero hn
                have hrl : (rep n (cellsOf z)).length = n * S.k c := by
                  rw [flat_rep (k := 0),flat_length (k := S.k c) (fun d hd => by rw [List.eq_of_mem_replicate hd,hzl,hk]),List.length_replicate]
                have hpl : lo * S.k c + (rep n (cellsOf z)).length ≤ ws.length := by
                  rw [hrl,e3,← Nat.add_mul]; exact Nat.mul_le_mul_right _ hle
                have hone : ∀ w ∈ cellsOf z,oneCell w = true := fun w hw => ones_den (hzd X) (ok.cells c zz).2 w hw
                have hall : (rep n (cellsOf z)).all oneCell = true := List.all_eq_true.2 fun w hw => by
                  rw [flat_rep (k := 0)] at hw
                  obtain ⟨d,hd,hw⟩ := List.mem_flatten.1 hw
                  rw [List.eq_of_mem_replicate hd] at hw
                  exact hone w hw
                have hne : rep n (cellsOf z) ≠ [] := by
                  intro h0
                  rw [h0] at hrl
                  have : 0 < n * S.k c := Nat.mul_pos (Nat.pos_of_ne_zero hn0) hkpos
                  simp at hrl; omega
                have hput := fun q => putAt_get ws (lo * S.k c) (rep n (cellsOf z)) q hpl
                intro s h1 h2
                obtain ⟨g1,g2⟩ := put_step (c' := .list false ex e' c (l.take lo ++ (List.replicate n zz ++ l.drop (lo + n)))) (b := .cells (putAt ws (lo * S.k c) (rep n (cellsOf z))) e' 0) hr h1 h2 hHi hN rfl rfl (Same.list (by simp; omega)) (by rw [e2]; rfl) fun X' hL hb hn' => by
                  refine ⟨by simp; omega,_,fun j => if lo ≤ j ∧ j < lo + n then cellsOf z else cs j,hb,?_,fun j y hj => ?_,fun j y hj => ?_,by omega,(fun h => by cases h)⟩
                  · rw [putAt_len _ _ _ hpl,e3]; congr 1; simp; omega
                  · have hjl : j < l.length := by have := (List.getElem?_eq_some_iff.1 hj).1; simp at this; omega
                    have hcj : (if lo ≤ j ∧ j < lo + n then cellsOf z else cs j).length = S.k c := by
                      split
                      · rw [hzl,hk]
                      · exact (slice_some (e4 j _ (List.getElem?_eq_getElem hjl))).2
                    have hjk : j * S.k c + S.k c ≤ ws.length := by rw [e3,← Nat.succ_mul]; exact Nat.mul_le_mul_right _ hjl
                    refine slice_ext hcj (by rw [putAt_len _ _ _ hpl]; exact hjk) fun q hq => ?_
                    rw [hput]
                    dsimp only
                    by_cases hin : lo ≤ j ∧ j < lo + n
                    · have a1 : lo * S.k c ≤ j * S.k c := Nat.mul_le_mul_right _ hin.1
                      have a2 : j * S.k c + S.k c ≤ (lo + n) * S.k c := by rw [← Nat.succ_mul]; exact Nat.mul_le_mul_right _ hin.2
                      rw [if_pos hin,if_pos ⟨by omega,by rw [hrl]; rw [Nat.add_mul] at a2; omega⟩]
                      have hfl : rep n (cellsOf z) = (List.replicate n (cellsOf z)).flatten := flat_rep (k := 0) n
                      have := slice_one (flat_at (k := S.k c) (List.replicate n (cellsOf z)) (j - lo) (cellsOf z) (fun d hd => by rw [List.eq_of_mem_replicate hd,hzl,hk]) (by rw [List.getElem?_replicate,if_pos (by omega)])) hq
                      rw [← hfl] at this
                      rw [← this]
                      congr 1
                      rw [Nat.mul_sub_right_distrib] ; omega
                    · rw [if_neg hin,if_neg ?_]
                      · exact slice_one (e4 j _ (List.getElem?_eq_getElem hjl)) hq
                      · rintro ⟨b1,b2⟩
                        rw [hrl,← Nat.add_mul] at b2
                        rcases Nat.lt_or_ge j lo with hlt | hge
                        · have : j * S.k c + S.k c ≤ lo * S.k c := by rw [← Nat.succ_mul]; exact Nat.mul_le_mul_right _ hlt
                          omega
                        · have : (lo + n) * S.k c ≤ j * S.k c := Nat.mul_le_mul_right _ (by omega)
                          omega
                  · dsimp only
                    by_cases hin : lo ≤ j ∧ j < lo + n
                    · rw [if_pos hin]
                      have : y = zz := by
                        rw [List.getElem?_append_right (by simp; omega),List.getElem?_append_left (by simp; omega),List.getElem?_replicate] at hj
                        split at hj
                        · cases hj; rfl
                        · cases hj
                      subst this
                      exact hzd X'
                    · rw [if_neg hin]
                      refine (e5 j y ?_).later hL
                      by_cases hlt : j < lo
                      · rw [List.getElem?_append_left (by simp; omega),List.getElem?_take,if_pos hlt] at hj; exact hj
                      · rw [List.getElem?_append_right (by simp; omega),List.getElem?_append_right (by simp; omega),List.getElem?_drop] at hj
                        rw [← hj]; congr 1; simp; omega
                refine ⟨_,_,.tuple #[],{ s with t := s.t.set M (some (.cells (putAt ws (lo * S.k c) (rep n (cellsOf z))) e' 0)),mods := M :: s.mods },[],[M],h,?_,.tup .nil .nil,by rw [setC_eq]; exact g1,g2,fun h => by cases h⟩
                rw [run _ hv]
                unfold Ev.clear
                have hzs : zeros T e n = some (rep n (cellsOf z)) := by unfold zeros; rw [z1,hsz]; simp only [hzl,if_true]
                have hg : s.t.get M = some (.cells ws e' 0) := by rw [h1]; exact e2
                obtain ⟨n',rfl⟩ : ∃ n',n = n' + 1 := ⟨n - 1,by omega⟩
                simp only [ok.slice t e hd,hzs]
                have hst : Ev.storeCells M (lo * S.k c) (rep (n' + 1) (cellsOf z)) s = some ((),{ s with t := s.t.set M (some (.cells (putAt ws (lo * S.k c) (rep (n' + 1) (cellsOf z))) e' 0)),mods := M :: s.mods }) := by
                  unfold Ev.storeCells
                  cases hcs : rep (n' + 1) (cellsOf z) with
                  | nil => exact absurd hcs hne
                  | cons c0 cr =>
                    rw [← hcs]
                    simp only [bnd,rowOf,hg]
                    rw [if_pos ⟨by decide,Nat.zero_le _,hpl,hall⟩]
                    simp only [setB,hg]
                simp only [bnd,hst,ret]
          · exact h.elim
        · exact h.elim
      · exact h.elim
    · exact h.elim
  · exact h.elim
theorem range_op_sound (ok : SysOk T S) {C : FuncId → Option (Spec U)} {X : Env U} (hr : HRel S X) {F : Frm U} {fr : Fr} (hF : FrmOk S X F fr.tmps) {t : TypeId} {x : Operand} {K : SV U → Hp U → Prop} (h : bigStep S C F X.H (.range t x) K) : BigOk S X true K (evPlain T fr.eval (.range t x)) := by
  simp only [bigStep] at h
  split at h
  · rename_i q hd he
    have hx := evo_den hF x
    rw [he] at hx
    have hw := str_inv hx
    intro s h1 h2
    obtain ⟨g1,g2⟩ := hr.lay (c := .siter q 0) (t' := s.t.set s.next (some (.obj (.stringIter ⟨⟨q⟩⟩ 0)))) (fun M hM => by rw [h2,h1]; exact Tree.get_set_ne _ _ hM) fun X' hL ht hn _ => ⟨X.n,rfl,by rw [ht,h2]; exact Tree.get_set_same _ _ _,by omega⟩
    rw [lenH_eq,snoc_eq] at h
    refine ⟨_,_,.pointer (some ⟨s.next,0,none⟩),{ s with t := s.t.set s.next (some (.obj (.stringIter ⟨⟨q⟩⟩ 0))),next := s.next + 1 },[some X.n],[],h,?_,.ptr ?_ .nil,⟨rfl,rfl,rfl,?_,?_,Nat.le_succ _,fun N hN hl => ?_,rfl,(fun _ h => by cases h),fun N hN _ => Tree.get_set_ne _ _ (Nat.ne_of_lt hN),List.prefix_append _ _⟩,(fun _ h => by cases h),fun h => by cases h⟩
    · unfold evPlain
      simp only
      unfold rangeOp
      simp only [ok.str t hd,hw,bnd,newB,ret]
    · show (X.ns ++ [some X.n])[X.H.length]? = _
      rw [← hr.len,h2]; simp
    · rw [← h2] at g2 ⊢; exact g2
    · rw [← h2] at g1 ⊢; exact g1
    · rw [h2] at hN; exact lay_live hr hN hl
  · exact h.elim
theorem next_op_sound {C : FuncId → Option (Spec U)} {X : Env U} (hr : HRel S X) {F : Frm U} {fr : Fr} (hF : FrmOk S X F fr.tmps) {x : Operand} {b : Bool} {K : SV U → Hp U → Prop} (h : bigStep S C F X.H (.next x b) K) : BigOk S X true K (evPlain T fr.eval (.next x b)) := by
  simp only [bigStep] at h
  split at h
  · rename_i i he
    have hx := evo_den hF x
    rw [he] at hx
    obtain ⟨N,hN,hw⟩ := ptr_inv hx
    split at h
    · rename_i q p hcon
      have hi := conAt_get hcon (by simp)
      obtain ⟨M,e1,e2,e3⟩ := hr.ok i _ _ hi hN
      cases e1
      intro s h1 h2
      have hg : s.t.get N = some (.obj (.stringIter ⟨⟨q⟩⟩ p)) := by rw [h1]; exact e2
      have hsz : (⟨⟨q⟩⟩ : ByteArray).size = q.length := rfl
      by_cases hp : p < q.length
      · have hK := h.1 hp _ _ rfl
        obtain ⟨g1,g2⟩ := put_step (c' := .siter q (p + (Utf8.decode ⟨⟨q⟩⟩ p).2)) (b := .obj (.stringIter ⟨⟨q⟩⟩ (p + (Utf8.decode ⟨⟨q⟩⟩ p).2))) hr h1 h2 hi hN rfl rfl (fun _ _ _ _ _ h => by cases h) (by rw [e2]; rfl) fun X' hL hb hn => ⟨N,rfl,hb,by omega⟩
        refine ⟨_,_,.tuple #[.bool true,goInt p,.int .i32 (Utf8.decode ⟨⟨q⟩⟩ p).1],{ s with t := s.t.set N (some (.obj (.stringIter ⟨⟨q⟩⟩ (p + (Utf8.decode ⟨⟨q⟩⟩ p).2)))),mods := N :: s.mods },[],[N],hK,?_,.tup (.bool (.int (.int .nil))) .nil,by rw [setC_eq]; exact g1,g2,fun h => by cases h⟩
        unfold evPlain
        simp only [hw]
        unfold nextOp
        simp only [hg]
        rw [if_pos (by rw [hsz]; exact hp)]
        simp only [bnd,setB,hg,ret]
      · have hXe : (⟨X.wb,X.ns ++ [],X.H,s.t,s.next⟩ : Env U) = X := by rw [List.append_nil,h1,h2]
        refine ⟨_,_,.tuple #[.bool false],s,[],[],h.2 hp,?_,by rw [hXe]; exact .tup (.bool .nil) .nil,by rw [hXe]; exact Step.refl hr h1 h2,(fun _ h => by cases h),fun h => by cases h⟩
        unfold evPlain
        simp only [hw]
        unfold nextOp
        simp only [hg]
        rw [if_neg (by rw [hsz]; exact hp)]
    · exact h.elim
  · exact h.elim
end Go.Sx
