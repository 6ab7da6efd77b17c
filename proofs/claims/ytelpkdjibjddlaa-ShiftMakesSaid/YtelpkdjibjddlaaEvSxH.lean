/-
  SX, PART E: operations without memory do as told: the whole.
-/
import Derived.Test.YtelpkdjibjddlaaEvSxD
set_option linter.unusedSimpArgs false
set_option linter.unusedVariables false
namespace Go.Sx
open Go Go.Ev Go.RowKit
variable {U : Nat → Type} {T : Tab} {S : Sys U} {X : Env U}
theorem conAt_get : ∀ {H : Hp U} {i : Nat} {c : Con U},conAt H i = c → c ≠ .dead → H[i]? = some c
  | [],i,c,h,hd => by cases h; exact absurd rfl hd
  | a :: l,0,c,h,_ => by cases h; rfl
  | a :: l,i + 1,c,h,hd => by simpa using conAt_get (H := l) (i := i) h hd
theorem fieldOf_ex : ∀ {fs : List (Nat × Nat × TypeId)} {i : Nat} {K : Nat → Nat → TypeId → Prop},fieldOf fs i K → ∃ o n u,fs[i]? = some (o,n,u) ∧ K o n u
  | [],i,K,h => h.elim
  | (o,n,u) :: fs,0,K,h => ⟨o,n,u,rfl,h⟩
  | _ :: fs,i + 1,K,h => by simpa using fieldOf_ex (fs := fs) (i := i) h
theorem StructOk.at : ∀ {fs : List (Nat × Nat × TypeId)} {gs : List Field} {i o n : Nat} {u : TypeId},StructOk T S fs gs → fs[i]? = some (o,n,u) → ∃ g,gs[i]? = some g ∧ g.offset = o ∧ g.type = u ∧ T.size u = some n ∧ ∃ d,T.und u = some d ∧ isAggD d = S.agg u
  | [],_,i,_,_,_,_,h => by simp at h
  | (o,n,u) :: fs,[],i,_,_,_,h,_ => h.elim
  | (o,n,u) :: fs,g :: gs,0,_,_,_,h,e => by
    simp at e; obtain ⟨rfl,rfl,rfl⟩ := e
    exact ⟨g,rfl,h.1,h.2.1,h.2.2.1,h.2.2.2.1⟩
  | (o,n,u) :: fs,g :: gs,i + 1,_,_,_,h,e => by simpa using StructOk.at (i := i) h.2.2.2.2 (by simpa using e)
theorem StructOk.places : ∀ {fs : List (Nat × Nat × TypeId)} {gs : List Field},StructOk T S fs gs → fieldPlaces T gs = some (fs.map fun p => (p.1,p.2.1))
  | [],[],_ => rfl
  | [],_ :: _,h => h.elim
  | _ :: _,[],h => h.elim
  | (o,n,u) :: fs,g :: gs,h => by
    obtain ⟨h1,h2,h3,_,h5⟩ := h
    unfold fieldPlaces
    rw [h2,h3,StructOk.places h5,h1]; rfl
theorem fillS_sound {F : Frm U} {fr : Fr} (hF : FrmOk S X F fr.tmps) {fs : List (Nat × Nat × TypeId)} : ∀ {ps : List (Nat × Operand)} {l : List (SV U)} {cs : List Value} {K : List (SV U) → Prop},fillS fs F ps l K → DenL S X l cs → ∃ l' cs',K l' ∧ DenL S X l' cs' ∧ fillL (fun i => (fs.map fun p => (p.1,p.2.1))[i]?) cs (ps.map fun p => (p.1,fr.eval p.2)) = some cs'
  | [],l,cs,K,h,hd => ⟨l,cs,h,hd,rfl⟩
  | (i,x) :: ps,l,cs,K,h,hd => by
    obtain ⟨o,n,u,h1,h2⟩ := fieldOf_ex h
    have hx := evo_den hF x
    have h3 : evo F x ≠ .undef := by intro e; rw [e] at h2; exact h2
    have h4 : (Nat.beq (lenL (cellsSV (evo F x))) n && Nat.ble (o + n) (lenL l)) = true ∧ fillS fs F ps (putL l o (cellsSV (evo F x))) K := by
      revert h2 h3
      generalize evo F x = v
      intro h2 h3
      cases v <;> first | exact absurd rfl h3 | exact bif_true h2
    obtain ⟨h5,h6⟩ := h4
    obtain ⟨h7,h8⟩ := and_tt h5
    have hc := cellsOf_den hx h3
    obtain ⟨l',cs',g1,g2,g3⟩ := fillS_sound hF h6 (DenL.put o hd hc)
    refine ⟨l',cs',g1,g2,?_⟩
    have e1 : (fs.map fun p => (p.1,p.2.1))[i]? = some (o,n) := by rw [List.getElem?_map,h1]; rfl
    have e2 : (cellsOf (fr.eval x)).length = n := by rw [hc.len,← lenL_eq]; exact beq_nat h7
    have e3 : o + n ≤ cs.length := by rw [hd.len,← lenL_eq]; exact Nat.le_of_ble_eq_true h8
    simp only [List.map_cons,fillL,e1]
    rw [if_pos ⟨e2,e3⟩]; exact g3
theorem arrFs_get {sz : Nat} : ∀ (n o i : Nat),(arrFs sz n o)[i]? = if i < n then some (o + i * sz,sz,0) else none
  | 0,o,i => by simp [arrFs]
  | n + 1,o,0 => by simp [arrFs]
  | n + 1,o,i + 1 => by
    simp only [arrFs,List.getElem?_cons_succ,arrFs_get n (o + sz) i,Nat.add_lt_add_iff_right]
    split
    · rw [Nat.succ_mul]; congr 2; omega
    · rfl
theorem fillL_mono {p q : Nat → Option (Nat × Nat)} (h : ∀ i r,p i = some r → q i = some r) : ∀ {ps : List (Nat × Value)} {l r : List Value},fillL p l ps = some r → fillL q l ps = some r
  | [],l,r,e => e
  | (i,v) :: ps,l,r,e => by
    unfold fillL at e ⊢
    split at e
    · cases e
    · rename_i off size hp
      rw [h _ _ hp]
      simp only
      split at e
      · rename_i hc; rw [if_pos hc]; exact fillL_mono h e
      · cases e
theorem minmax_sound {mx : Bool} {k : IntKind} : ∀ {l : List (SV U)} {vs : List Value} {x : Int} {K : SV U → Prop},minmaxS mx k x l K → DenL S X l vs → ∃ sv v,K sv ∧ Den S X sv v ∧ minmaxFrom mx k x vs = some v
  | [],vs,x,K,h,hd => by cases hd; exact ⟨_,_,h,.int .nil,rfl⟩
  | v :: l,vs,x,K,h,hd => by
    obtain ⟨w,ws,rfl,h1,h2⟩ := hd.uncons
    cases v with
    | int k' y =>
      cases h1
      obtain ⟨sv,v,g1,g2,g3⟩ := minmax_sound (l := l) h h2
      refine ⟨sv,v,g1,g2,?_⟩
      unfold minmaxFrom
      unfold mm at g3
      cases mx <;> exact g3
    | _ => exact h.elim
theorem olDen_list {i : Nat} {w : Value} {fz ex : Bool} {e c : Nat} {l : List (U c)} (h : Den S X (.ol i) w) (hc : conAt X.H i = .list fz ex e c l) : ∃ N,X.ns[i]? = some N ∧ olVal N ex l.length (S.k c) w := by
  have := conAt_get hc (by simp)
  cases h with
  | ol h0 _ =>
    unfold olDen at h0
    rw [this] at h0
    exact h0
theorem olVal_len {N : Option Nat} {ex : Bool} {m k : Nat} {v : Value} (h : olVal N ex m k v) : ∃ a cap,v = .slice a m cap ∧ (m ≠ 0 → ∃ M,N = some M ∧ a = some ⟨M,0,none⟩) := by
  unfold olVal at h
  split at h
  · exact ⟨_,_,h,fun _ => ⟨_,rfl,rfl⟩⟩
  · obtain ⟨rfl,a,h,_⟩ := h; exact ⟨_,_,h,fun h => absurd rfl h⟩
theorem oslDen_list {i lo n : Nat} {w : Value} {fz ex : Bool} {e c : Nat} {l : List (U c)} (h : Den S X (.osl i lo n) w) (hc : conAt X.H i = .list fz ex e c l) : ∃ N,X.ns[i]? = some N ∧ oslVal N ex l.length (S.k c) lo n w := by
  have := conAt_get hc (by simp)
  have h0 := osl_inv h
  unfold oslDen at h0
  rw [this] at h0
  exact h0
theorem oslVal_len {N : Option Nat} {ex : Bool} {m k lo n : Nat} {v : Value} (h : oslVal N ex m k lo n v) : ∃ a cap,v = .slice a n cap ∧ (n ≠ 0 → ∃ M,N = some M ∧ a = some ⟨M,lo * k,none⟩) := by
  obtain ⟨h0,h⟩ := h
  split at h
  · exact ⟨_,_,h,fun _ => ⟨_,rfl,rfl⟩⟩
  · obtain ⟨rfl,a,h,_⟩ := h; exact ⟨_,_,h,fun h => absurd rfl h⟩
theorem olVal_osl {N : Option Nat} {ex : Bool} {m k : Nat} {v : Value} (h : olVal N ex m k v) : oslVal N ex m k 0 m v := by
  refine ⟨by omega,?_⟩
  unfold olVal at h
  split at h
  · rw [Nat.zero_mul,Nat.sub_zero]; exact h
  · exact h
theorem sl_part {c : Nat} {l : List (U c)} {M o : Nat} {ws : List Value} {e hi : Nat} {cs : Nat → List Value} (k1 : l ≠ [] → X.t.get M = some (.cells ws e hi) ∧ M < X.n ∧ ¬ X.fb M) (k3 : ∀ j x,l[j]? = some x → Ev.slice ws (o + j * S.k c) (S.k c) = some (cs j)) (k4 : ∀ j x,l[j]? = some x → DenL S X (S.cells c x) (cs j)) (h1 : l.length < END) {lo n : Nat} (hle : lo + n ≤ l.length) {a : Option Addr} {cap : Nat} (ha : n ≠ 0 → a = some ⟨M,o + lo * S.k c,none⟩) (ha2 : a = none ∨ ∃ M p,a = some ⟨M,p,none⟩) (hc : n ≤ cap ∧ cap < END ∨ cap = END + S.k c ∨ n = 0 ∧ cap = END + END) : Den S X (.sl c ((l.drop lo).take n)) (.slice a n cap) := by
  have hlen : ((l.drop lo).take n).length = n := by simp; omega
  have hget : ∀ {j : Nat} {y : U c},((l.drop lo).take n)[j]? = some y → l[lo + j]? = some y := fun {j y} hj => by
    rw [List.getElem?_take] at hj
    split at hj
    · rw [List.getElem?_drop] at hj; exact hj
    · cases hj
  have := DenL.sl (S := S) (X := X) (c := c) (d := (l.drop lo).take n) (a := a) (cap := cap) (N := M) (o := o + lo * S.k c) (ws := ws) (e := e) (hi := hi) (cs := fun j => cs (lo + j)) ⟨ha2,by
      rw [hlen]
      rcases hc with h | h | ⟨h,h'⟩
      · exact .inl h
      · exact .inr (.inl h)
      · exact .inr (.inr ⟨List.length_eq_zero_iff.1 (hlen.trans h),h'⟩)⟩ (fun hd => by
      have hn : n ≠ 0 := fun h0 => hd (List.length_eq_zero_iff.1 (by omega))
      have hl : l ≠ [] := fun h0 => by rw [h0] at hle; simp at hle; omega
      exact ⟨ha hn,k1 hl⟩) (fun j y hj => by have := k3 _ y (hget hj); rw [Nat.add_mul,← Nat.add_assoc] at this; exact this) (fun j y hj => k4 _ y (hget hj)) (by rw [hlen]; omega) .nil
  rw [hlen] at this; exact this
theorem slice_run {fr : Fr} {t : TypeId} {x : Operand} {lo hi : Option Operand} {v : Value} (h : sliceOp T t (fr.eval x) (lo.map fr.eval) (hi.map fr.eval) none = some v) (st : St) : evPlain T fr.eval (.slice t x lo hi none) st = some (v,st) := by
  unfold evPlain
  simp only [Option.isSome_none,Bool.false_and,Bool.false_eq_true,if_false,Option.map_none,h,lift]
theorem sl_slice (ok : SysOk T S) {fr : Fr} {t e : TypeId} {c : Nat} {l : List (U c)} {x : Operand} {lo hi : Option Operand} (hd : S.td t = .slice e) (hk : S.size e = S.k c) (hn : S.size e ≠ 0) (hx : Den S X (.sl c l) (fr.eval x)) (hpos : 0 < l.length) {l0 h0 : Nat} (hl : bound (lo.map fr.eval) 0 = some l0) (hh : bound (hi.map fr.eval) l.length = some h0) (h1 : l0 ≤ h0) (h2 : h0 ≤ l.length) :
    ∃ v,Den S X (.sl c ((l.drop l0).take (h0 - l0))) v ∧ ∀ st : St,evPlain T fr.eval (.slice t x lo hi none) st = some (v,st) := by
  have hsz := (ok.size e hn).1
  obtain ⟨a,cap,N,o,ws,e',hi',cs,hw,q0,q1,q2,q3,q4⟩ := sl_inv hx
  have hne : l ≠ [] := fun h => by rw [h] at hpos; exact absurd hpos (Nat.lt_irrefl 0)
  obtain ⟨rfl,g1⟩ := q1 hne
  have den : ∀ (a : Option Addr) (cap' : Nat),(h0 - l0 ≠ 0 → a = some ⟨N,o + l0 * S.k c,none⟩) → (a = none ∨ ∃ M p,a = some ⟨M,p,none⟩) → (h0 - l0 ≤ cap' ∧ cap' < END ∨ cap' = END + S.k c ∨ h0 - l0 = 0 ∧ cap' = END + END) → Den S X (.sl c ((l.drop l0).take (h0 - l0))) (.slice a (h0 - l0) cap') := fun a cap' => sl_part (fun _ => g1) q2 q3 q4 (by omega)
  rcases q0.2 with ⟨k1,k2⟩ | k | ⟨k,_⟩
  · refine ⟨.slice (if cap = l0 then some ⟨N,o,none⟩ else some ⟨N,o + l0 * S.size e,none⟩) (h0 - l0) (cap - l0),den _ _ (fun h => by rw [if_neg (by omega),hk]) (by split <;> exact .inr ⟨_,_,rfl⟩) (.inl ⟨by omega,by omega⟩),slice_run ?_⟩
    unfold sliceOp
    simp only [ok.slice t e hd,hw,hsz,hl,hh]
    rw [if_neg (by omega),if_pos ⟨h1,by omega⟩]; rfl
  · by_cases hlt : l0 < h0
    · refine ⟨.slice (some ⟨N,o + l0 * S.size e,none⟩) (h0 - l0) cap,den _ _ (fun _ => by rw [hk]) (.inr ⟨_,_,rfl⟩) (.inr (.inl k)),slice_run ?_⟩
      unfold sliceOp
      simp only [ok.slice t e hd,hw,hsz,hl,hh]
      rw [if_pos (by omega),if_pos ⟨by rw [k,hk],h1,h2⟩,if_pos hlt]; rfl
    · have h3 : h0 - l0 = 0 := by omega
      by_cases hz : l0 = 0
      · refine ⟨.slice (some ⟨N,o,none⟩) (h0 - l0) cap,den _ _ (fun h => absurd h3 h) (.inr ⟨_,_,rfl⟩) (.inr (.inl k)),slice_run ?_⟩
        unfold sliceOp
        simp only [ok.slice t e hd,hw,hsz,hl,hh]
        rw [if_pos (by omega),if_pos ⟨by rw [k,hk],h1,h2⟩,if_neg hlt,if_pos hz,h3]
      · refine ⟨.slice (some ⟨N,o,none⟩) (h0 - l0) (END + END),den _ _ (fun h => absurd h3 h) (.inr ⟨_,_,rfl⟩) (.inr (.inr ⟨h3,rfl⟩)),slice_run ?_⟩
        unfold sliceOp
        simp only [ok.slice t e hd,hw,hsz,hl,hh]
        rw [if_pos (by omega),if_pos ⟨by rw [k,hk],h1,h2⟩,if_neg hlt,if_neg hz,h3]
  · exact absurd k hne
theorem own_slice (ok : SysOk T S) {fr : Fr} {t e : TypeId} {k : Nat} {x : Operand} {lo hi : Option Operand} (hd : S.td t = .slice e) (hk : S.size e = k) (hn : S.size e ≠ 0) {N : Option Nat} {ex : Bool} {len base n : Nat} (hx : oslVal N ex len k base n (fr.eval x)) (hE : len < END) {l0 h0 : Nat} (hl : bound (lo.map fr.eval) 0 = some l0) (hh : bound (hi.map fr.eval) n = some h0) (h1 : l0 = 0 ∨ l0 < h0) (h2 : h0 ≤ n) :
    ∃ v,oslVal N ex len k (base + l0) (h0 - l0) v ∧ ∀ st : St,evPlain T fr.eval (.slice t x lo hi none) st = some (v,st) := by
  have hsz := (ok.size e hn).1
  obtain ⟨hle,hx⟩ := hx
  cases N with
  | none =>
    obtain ⟨rfl,a,hw,ha⟩ := hx
    have e1 : h0 = 0 := by omega
    have e2 : l0 = 0 := by omega
    subst e1 e2
    refine ⟨.slice a 0 0,⟨by omega,rfl,a,rfl,ha⟩,slice_run ?_⟩
    unfold sliceOp
    simp only [ok.slice t e hd,hw,hsz,hl,hh]
    rw [if_neg (by decide),if_pos (by simp)]
    simp
  | some M =>
    simp only at hx
    cases ex with
    | true =>
      rw [if_pos rfl] at hx
      refine ⟨.slice (some ⟨M,(base + l0) * k,none⟩) (h0 - l0) (len - (base + l0)),⟨by omega,by simp⟩,slice_run ?_⟩
      unfold sliceOp
      simp only [ok.slice t e hd,hx,hsz,hl,hh]
      rw [if_neg (by omega),if_pos ⟨by omega,by omega⟩,Nat.sub_sub,Nat.add_mul,hk]
      by_cases hz : l0 = 0
      · subst hz; simp
      · rw [if_neg (by omega)]; rfl
    | false =>
      rw [if_neg (by decide)] at hx
      refine ⟨.slice (some ⟨M,(base + l0) * k,none⟩) (h0 - l0) (END + k),⟨by omega,by simp⟩,slice_run ?_⟩
      unfold sliceOp
      simp only [ok.slice t e hd,hx,hsz,hl,hh]
      rw [if_pos (by omega),if_pos ⟨by rw [hk],by omega,h2⟩,Nat.add_mul,hk]
      by_cases hlt : l0 < h0
      · rw [if_pos hlt]; rfl
      · have hz : l0 = 0 := by omega
        subst hz
        rw [if_neg hlt,if_pos rfl,show h0 = 0 by omega]; simp
theorem ownSlice_sound (ok : SysOk T S) {F : Frm U} {fr : Fr} {t e : TypeId} {c q : Nat} {x : Operand} {lo hi : Option Operand} (hd : S.td t = .slice e) {N : Option Nat} {ex : Bool} {len base n : Nat} (hx : oslVal N ex len (S.k c) base n (fr.eval x)) (hE : len < END) (hq : ∀ b m v,oslVal N ex len (S.k c) b m v → Den S X (.osl q b m) v)
    (oi : ∀ (q : Option Operand) (k : IntKind) (a : Int),optS F q = some (.int k a) → q.map fr.eval = some (.int k a)) (on : ∀ q : Option Operand,optS F q = none → q.map fr.eval = none) {K : SV U → Prop} (h : ownSlice S e c q base n (optS F lo) (optS F hi) K) :
    ∃ sv v,K sv ∧ Den S X sv v ∧ ∀ st : St,evPlain T fr.eval (.slice t x lo hi none) st = some (v,st) := by
  unfold ownSlice at h
  obtain ⟨hc,h⟩ := bif_true h
  obtain ⟨hc1,hc2⟩ := and_tt hc
  have hk := beq_nat hc1
  have hn := nbeq_nat hc2
  have main : ∀ {l0 h0 : Nat},bound (lo.map fr.eval) 0 = some l0 → bound (hi.map fr.eval) n = some h0 → (l0 = 0 ∨ l0 < h0) → h0 ≤ n → K (.osl q (base + l0) (h0 - l0)) → ∃ sv v,K sv ∧ Den S X sv v ∧ ∀ st : St,evPlain T fr.eval (.slice t x lo hi none) st = some (v,st) := fun hl hh h1 h2 hK => by
    obtain ⟨v,g1,g2⟩ := own_slice ok hd hk hn hx hE hl hh h1 h2
    exact ⟨_,v,hK,hq _ _ _ g1,g2⟩
  split at h
  · rename_i hlo
    have hlo := on _ hlo
    split at h
    · rename_i k b hb
      have hb := oi _ _ _ hb
      obtain ⟨hq,hK⟩ := h
      obtain ⟨h1,h2⟩ := hq.out
      exact main (l0 := 0) (h0 := b.toNat) (by rw [hlo]; rfl) (by rw [hb]; simp [bound,h1]) (.inl rfl) (by omega) (by simpa using hK)
    · exact h.elim
    · rename_i hb
      have hb := on _ hb
      exact main (l0 := 0) (h0 := n) (by rw [hlo]; rfl) (by rw [hb]; rfl) (.inl rfl) (Nat.le_refl _) (by simpa using h)
  · rename_i k a ha
    have ha := oi _ _ _ ha
    split at h
    · rename_i k b hb
      have hb := oi _ _ _ hb
      obtain ⟨hq,hK⟩ := h
      obtain ⟨h1,h2,h3⟩ := hq.out
      exact main (l0 := a.toNat) (h0 := b.toNat) (by rw [ha]; simp [bound,h1]) (by rw [hb]; simp [bound]; omega) (.inr (by omega)) (by omega) hK
    · exact h.elim
    · rename_i hb
      have hb := on _ hb
      obtain ⟨hq,hK⟩ := h
      obtain ⟨h1,h2⟩ := hq.out
      exact main (l0 := a.toNat) (h0 := n) (by rw [ha]; simp [bound,h1]) (by rw [hb]; rfl) (.inr (by omega)) (Nat.le_refl _) hK
  · exact h.elim
theorem pure_sound (ok : SysOk T S) (hr : HRel S X) {F : Frm U} {fr : Fr} (hF : FrmOk S X F fr.tmps) {o : Op} {K : SV U → Prop} (h : pureStep S F X.H o K) : ∃ sv v,K sv ∧ Den S X sv v ∧ ∀ s : St,evPlain T fr.eval o s = some (v,s) := by
  have E := evo_den hF
  cases o with
  | move x => exact ⟨_,_,h,E x,fun s => rfl⟩
  | assign x => exact ⟨_,_,h,E x,fun s => rfl⟩
  | pick c a b =>
    have hc := E c
    have ha := E a
    have hb := E b
    simp only [pureStep] at h
    split at h
    · rename_i p hp
      rw [hp] at hc
      have ec := bool_inv hc
      have ev : ∀ s : St,evPlain T fr.eval (.pick c a b) s = some (if p then fr.eval a else fr.eval b,s) := fun s => by unfold evPlain; simp only [ec,pickOf,lift]
      cases p with
      | true => exact ⟨_,_,h.1 rfl,ha,ev⟩
      | false => exact ⟨_,_,h.2 rfl,hb,ev⟩
    · exact h.elim
  | binOp op t x y u =>
    obtain ⟨sv,v,h1,h2,h3⟩ := bin_sound ok h (E x) (E y)
    exact ⟨sv,v,h1,h2,fun s => by unfold evPlain; simp only [lift,h3]⟩
  | unOp op t x =>
    have hx := E x
    simp only [pureStep] at h
    split at h
    · rename_i b he; rw [he] at hx
      have e := bool_inv hx
      cases b with
      | true => exact ⟨_,_,h.1 rfl,.bool .nil,fun s => by unfold evPlain; simp only [e,unop,lift]; rfl⟩
      | false => exact ⟨_,_,h.2 rfl,.bool .nil,fun s => by unfold evPlain; simp only [e,unop,lift]; rfl⟩
    · rename_i k a he; rw [he] at hx
      have e := int_inv hx
      exact ⟨_,_,arith_ex h,.int .nil,fun s => by unfold evPlain; simp only [e,unop,lift]; rfl⟩
    · exact h.elim
  | build t parts =>
    simp only [pureStep] at h
    split at h
    · rename_i fs hd
      cases hz : Nat.beq (lenL (S.zero t)) 0 with
      | true => rw [hz] at h; exact h.elim
      | false =>
        rw [hz] at h
        obtain ⟨gs,g1,g2⟩ := ok.struct t fs hd
        obtain ⟨z,z1,z2⟩ := ok.zero t (by intro e; rw [e] at hz; cases hz)
        obtain ⟨l',cs',k1,k2,k3⟩ := fillS_sound hF h (z2 X)
        refine ⟨_,_,k1,.agg k2 .nil,fun s => ?_⟩
        unfold evPlain
        simp only [build,z1,g1,g2.places,k3,Option.map_some,lift]
    · rename_i n el hd
      cases hz : (Nat.beq (lenL (S.zero t)) 0 || Nat.beq (S.size el) 0) with
      | true => rw [hz] at h; exact h.elim
      | false =>
        rw [hz] at h
        have hz1 : Nat.beq (lenL (S.zero t)) 0 = false := by cases hq : Nat.beq (lenL (S.zero t)) 0 <;> simp_all
        have hz2 : S.size el ≠ 0 := by intro e; rw [e] at hz; simp at hz
        obtain ⟨z,z1,z2⟩ := ok.zero t (by intro e; rw [e] at hz1; cases hz1)
        obtain ⟨l',cs',k1,k2,k3⟩ := fillS_sound hF h (z2 X)
        refine ⟨_,_,k1,.agg k2 .nil,fun s => ?_⟩
        have k4 := fillL_mono (q := fun i => some (i * S.size el,S.size el)) (fun i r hr => by
          rw [List.getElem?_map,arrFs_get] at hr
          split at hr
          · simp at hr; rw [← hr]
          · cases hr) k3
        unfold evPlain
        simp only [build,z1,ok.arr t n el hd,(ok.size el hz2).1,k4,Option.map_some,lift]
    · exact h.elim
  | nilCheck x =>
    have hx := E x
    simp only [pureStep] at h
    have : ∃ sv,K sv ∧ Den S X sv (fr.eval x) ∧ nilChecked (fr.eval x) = some (fr.eval x) := by
      split at h
      · rename_i he; rw [he] at hx; refine ⟨_,h,hx,?_⟩; generalize fr.eval x = w at hx; cases hx; rfl
      · rename_i he; rw [he] at hx; refine ⟨_,h,hx,?_⟩; generalize fr.eval x = w at hx; cases hx; rfl
      · rename_i he; rw [he] at hx; refine ⟨_,h,hx,?_⟩; generalize fr.eval x = w at hx; cases hx; rfl
      · rename_i he; rw [he] at hx; refine ⟨_,h,hx,?_⟩; generalize fr.eval x = w at hx; cases hx; rfl
      · rename_i he; rw [he] at hx; refine ⟨_,h,hx,?_⟩; generalize fr.eval x = w at hx; cases hx; rfl
      · rename_i he; rw [he] at hx; refine ⟨_,h,hx,?_⟩; generalize fr.eval x = w at hx; cases hx; rfl
      · exact h.elim
    obtain ⟨sv,h1,h2,h3⟩ := this
    exact ⟨sv,_,h1,h2,fun s => by unfold evPlain; simp only [h3,lift]⟩
  | makeInterface t x =>
    simp only [pureStep] at h
    have : S.td t ≠ .none ∧ S.td t ≠ .iface ∧ K (.iface t (evo F x)) := by
      split at h
      · exact h.elim
      · exact h.elim
      · rename_i h1 h2; exact ⟨h2,h1,h⟩
    obtain ⟨h1,h2,h3⟩ := this
    obtain ⟨d,g1,g2⟩ := ok.other t h1 h2
    refine ⟨_,.iface t (fr.eval x),h3,.iface (E x) .nil,fun s => ?_⟩
    unfold evPlain
    simp only [lift]
    unfold makeIface
    rw [g1]
    cases d with
    | interface m => exact absurd rfl (g2 m)
    | _ => rfl
  | makeFunc f a c =>
    cases f with
    | func g => exact ⟨_,_,h,.func (evos_den hF _) (evos_den hF _) .nil,fun s => rfl⟩
    | _ => exact h.elim
  | slice t x lo hi mx =>
    simp only [pureStep] at h
    cases mx with
    | some _ => exact h.elim
    | none =>
      simp only at h
      have oi : ∀ (q : Option Operand) (k : IntKind) (a : Int),optS F q = some (.int k a) → q.map fr.eval = some (.int k a) := by
        intro q k a hq
        cases q with
        | none => cases hq
        | some y =>
          have hy := E y
          simp only [optS,Option.some.injEq] at hq
          rw [hq] at hy
          cases hy' : fr.eval y <;> rw [hy'] at hy <;> cases hy
          simp only [Option.map_some,hy']
      have on : ∀ q : Option Operand,optS F q = none → q.map fr.eval = none := by
        intro q hq; cases q with
        | none => rfl
        | some y => cases hq
      split at h
      · rename_i e c l hd hs
        have hx := E x
        rw [hs] at hx
        split at h
        · rename_i hlo
          have hlo' := on _ hlo
          split at h
          · rename_i k b hb
            obtain ⟨hc,h⟩ := bif_true h
            obtain ⟨hc1,hc2⟩ := and_tt hc
            obtain ⟨hq,h4⟩ := h
            obtain ⟨h1,h2,hpos⟩ := hq.out
            have hb' := oi _ _ _ hb
            obtain ⟨v,g1,g2⟩ := sl_slice (l0 := 0) (h0 := b.toNat) ok hd (beq_nat hc1) (nbeq_nat hc2) hx hpos (by rw [hlo']; rfl) (by rw [hb']; simp [bound,h1]) (Nat.zero_le _) (by omega)
            exact ⟨_,v,h4,g1,g2⟩
          · exact h.elim
        · rename_i k a ha
          have ha' := oi _ _ _ ha
          split at h
          · rename_i k b hb
            obtain ⟨hc,h⟩ := bif_true h
            obtain ⟨hc1,hc2⟩ := and_tt hc
            obtain ⟨hq,h4⟩ := h
            obtain ⟨h1,h2,h3,hpos⟩ := hq.out
            have hb' := oi _ _ _ hb
            obtain ⟨v,g1,g2⟩ := sl_slice (l0 := a.toNat) (h0 := b.toNat) ok hd (beq_nat hc1) (nbeq_nat hc2) hx hpos (by rw [ha']; simp [bound,h1]) (by rw [hb']; simp [bound]; omega) (by omega) (by omega)
            exact ⟨_,v,h4,g1,g2⟩
          · exact h.elim
          · rename_i hb
            have hb' := on _ hb
            obtain ⟨hc,h⟩ := bif_true h
            obtain ⟨hc1,hc2⟩ := and_tt hc
            obtain ⟨hq,h4⟩ := h
            obtain ⟨h1,h2,hpos⟩ := hq.out
            obtain ⟨v,g1,g2⟩ := sl_slice (l0 := a.toNat) (h0 := l.length) ok hd (beq_nat hc1) (nbeq_nat hc2) hx hpos (by rw [ha']; simp [bound,h1]) (by rw [hb']; rfl) (by omega) (Nat.le_refl _)
            rw [List.take_of_length_le (by simp)] at g1
            exact ⟨_,v,h4,g1,g2⟩
        · exact h.elim
      · rename_i e q hd hs
        have hx := E x
        rw [hs] at hx
        split at h
        · rename_i fz ex e' c l hcon
          obtain ⟨N,k1,k2⟩ := olDen_list hx hcon
          exact ownSlice_sound ok hd (olVal_osl k2) (hr.ok _ _ _ (conAt_get hcon (by simp)) k1).1 (fun b m v hv => by
            obtain ⟨a',cap',rfl,_⟩ := oslVal_len hv
            refine .osl ?_ .nil
            unfold oslDen
            rw [conAt_get hcon (by simp)]
            exact ⟨N,k1,hv⟩) oi on h
        · exact h.elim
      · rename_i e q base n hd hs
        have hx := E x
        rw [hs] at hx
        split at h
        · rename_i fz ex e' c l hcon
          obtain ⟨N,k1,k2⟩ := oslDen_list hx hcon
          exact ownSlice_sound ok hd k2 (hr.ok _ _ _ (conAt_get hcon (by simp)) k1).1 (fun b m v hv => by
            obtain ⟨a',cap',rfl,_⟩ := oslVal_len hv
            refine .osl ?_ .nil
            unfold oslDen
            rw [conAt_get hcon (by simp)]
            exact ⟨N,k1,hv⟩) oi on h
        · exact h.elim
      · rename_i s hd hs
        have hx := E x
        rw [hs] at hx
        have e := str_inv hx
        have hu := ok.str t hd
        have main : ∀ (l u : Nat),bound (lo.map fr.eval) 0 = some l → bound (hi.map fr.eval) s.length = some u → l ≤ u → u ≤ s.length → ∀ st : St,evPlain T fr.eval (.slice t x lo hi none) st = some (.string ⟨⟨(s.drop l).take (u - l)⟩⟩,st) := by
          intro l u h1 h2 h3 h4 st
          unfold evPlain
          simp only [Option.isSome_none,Bool.false_and,Bool.false_eq_true,if_false,e,Option.map_none]
          unfold sliceOp
          simp only [hu,h1]
          have : bound (hi.map fr.eval) s.length = some u := h2
          simp only [this,Option.isNone_none,true_and,h3,h4,and_self,if_true,lift]
        split at h
        · rename_i k a ha
          have ha' := oi _ _ _ ha
          split at h
          · rename_i k' b hb
            have hb' := oi _ _ _ hb
            obtain ⟨hq,h4⟩ := h
            obtain ⟨h1,h2,h3⟩ := hq.out
            refine ⟨_,_,h4,.str .nil,main a.toNat b.toNat ?_ ?_ (by omega) (by omega)⟩
            · rw [ha']; simp [bound,h1]
            · rw [hb']; simp [bound]; omega
          · exact h.elim
          · rename_i hb
            have hb' := on _ hb
            obtain ⟨hq,h4⟩ := h
            obtain ⟨h1,h2⟩ := hq.out
            have hm := main a.toNat s.length (by rw [ha']; simp [bound,h1]) (by rw [hb']; rfl) (by omega) (Nat.le_refl _)
            rw [List.take_of_length_le (by simp)] at hm
            exact ⟨_,_,h4,.str .nil,hm⟩
        · exact h.elim
        · rename_i ha
          have ha' := on _ ha
          split at h
          · rename_i k' b hb
            have hb' := oi _ _ _ hb
            obtain ⟨hq,h4⟩ := h
            obtain ⟨h1,h2⟩ := hq.out
            have hm := main 0 b.toNat (by rw [ha']; rfl) (by rw [hb']; simp [bound,h1]) (Nat.zero_le _) (by omega)
            simp only [List.drop_zero,Nat.sub_zero] at hm
            exact ⟨_,_,h4,.str .nil,hm⟩
          · exact h.elim
          · rename_i hb
            have hb' := on _ hb
            have hm := main 0 s.length (by rw [ha']; rfl) (by rw [hb']; rfl) (Nat.zero_le _) (Nat.le_refl _)
            simp only [List.drop_zero,Nat.sub_zero,List.take_length] at hm
            exact ⟨_,_,h,.str .nil,hm⟩
      · exact h.elim
  | fieldAddr t x i =>
    simp only [pureStep] at h
    split at h
    · rename_i fs hd
      obtain ⟨gs,g1,g2⟩ := ok.struct t fs hd
      obtain ⟨o,n,u,h1,h2⟩ := fieldOf_ex h
      obtain ⟨g,e1,e2,e3,e4,_⟩ := g2.at h1
      cases hn : Nat.beq n 0 with
      | true => rw [hn] at h2; exact h2.elim
      | false =>
        rw [hn] at h2
        have hn0 : n ≠ 0 := by intro e; subst e; cases hn
        obtain ⟨n',rfl⟩ : ∃ n',n = n' + 1 := ⟨n - 1,by omega⟩
        have fa : ∀ N p,fr.eval x = .pointer (some ⟨N,p,none⟩) → ∀ s : St,evPlain T fr.eval (.fieldAddr t x i) s = some (.pointer (some ⟨N,p + o,none⟩),s) := by
          intro N p hx s
          unfold evPlain
          simp only [lift]
          unfold fieldAddr
          have e1' : gs[i]? = some g := by rw [← Array.getElem?_toList]; exact e1
          simp only [g1,hx,e1',e3,e4,e2]
        have hx := E x
        simp only [cond_false] at h2
        split at h2
        · rename_i he; rw [he] at hx
          obtain ⟨N,hN,hw⟩ := ptr_inv hx
          exact ⟨_,_,h2,.ptr hN .nil,fa _ _ hw⟩
        · rename_i he; rw [he] at hx
          obtain ⟨N,b,ws,e,hi,cs,hw,q1,q2,q3,q4,q5⟩ := rp_inv hx
          have := fa _ _ hw
          refine ⟨_,_,h2,?_,this⟩
          rw [Nat.add_assoc]
          exact .rp q1 q2 q3 q4 q5 .nil
        · rename_i j q p he; rw [he] at hx
          obtain ⟨N,p',hw,hq⟩ := olp_inv hx
          refine ⟨_,_,h2,.olp (N := N) (p := p' + o) ?_ .nil,fa _ _ hw⟩
          unfold olpDen at hq ⊢
          split at hq
          · exact ⟨hq.1,by rw [hq.2,Nat.add_assoc]⟩
          · trivial
          · exact hq.elim
        · exact h2.elim
    · exact h.elim
  | field t x i =>
    simp only [pureStep] at h
    split at h
    · rename_i fs hd
      obtain ⟨gs,g1,g2⟩ := ok.struct t fs hd
      obtain ⟨o,n,u,h1,h2⟩ := fieldOf_ex h
      obtain ⟨g,e1,e2,e3,e4,d,e5,e6⟩ := g2.at h1
      have hx := E x
      split at h2
      · rename_i l he
        rw [he] at hx
        obtain ⟨vs,hw,hl⟩ := agg_inv hx
        obtain ⟨hc,h2⟩ := bif_true h2
        obtain ⟨hc1,hc2⟩ := and_tt hc
        have hc1 : o + n ≤ l.length := by rw [← lenL_eq]; exact Nat.le_of_ble_eq_true hc1
        have e1' : gs[i]? = some g := by rw [← Array.getElem?_toList]; exact e1
        have hn : n ≠ 0 := nbeq_nat hc2
        cases ha : S.agg u with
        | true =>
          rw [ha] at h2
          refine ⟨_,.agg ⟨(vs.drop o).take n⟩,h2,.agg ((hl.drop o).take n) .nil,fun s => ?_⟩
          unfold evPlain
          simp only [lift]
          unfold field
          simp only [g1,hw,e1',e2,e3]
          unfold Ev.part
          simp only [e5,e6,ha,if_true,e4]
        | false =>
          rw [ha] at h2
          obtain ⟨w,k1,k2⟩ := hl.nth o (by omega)
          refine ⟨_,w,h2,k2,fun s => ?_⟩
          unfold evPlain
          simp only [lift]
          unfold field
          simp only [g1,hw,e1',e2,e3]
          unfold Ev.part
          simp only [e5,e6,ha,Bool.false_eq_true,if_false,k1]
      · exact h2.elim
    · exact h.elim
  | indexAddr t x i =>
    simp only [pureStep] at h
    split at h
    · rename_i e k j hd hi
      have hi' := E i
      rw [hi] at hi'
      have ei := int_inv hi'
      have hu := ok.slice t e hd
      have hx := E x
      have main : ∀ (a : Option Addr) (len cap N p n : Nat),fr.eval x = .slice a len cap → a = some ⟨N,p,none⟩ → T.size e = some n → 0 ≤ j → j < len → ∀ s : St,evPlain T fr.eval (.indexAddr t x i) s = some (.pointer (some ⟨N,p + j.toNat * n,none⟩),s) := by
        intro a len cap N p n h1 h2 h3 h4 h5 s
        subst h2
        unfold evPlain
        simp only [lift]
        unfold indexAddr
        simp only [hu,h1,ei,h3]
        rw [if_pos ⟨h4,h5⟩]
      split at h
      · rename_i c l he
        rw [he] at hx
        obtain ⟨hc,h⟩ := bif_true h
        obtain ⟨hc1,hc2⟩ := and_tt hc
        obtain ⟨a,cap,N,p,ws,e',hi,cs,hw,_,q1,q2,q3,q4⟩ := sl_inv hx
        obtain ⟨hq,h3⟩ := h
        obtain ⟨h1,h2⟩ := hq.out
        have hk := beq_nat hc1
        have hsz := (ok.size e (by rw [hk]; exact nbeq_nat hc2)).1
        have hl : l ≠ [] := by intro e0; subst e0; simp at h2; omega
        obtain ⟨ha,g1,g2,g3⟩ := q1 hl
        have hj : j.toNat < l.length := by omega
        have hy : l[j.toNat]? = some l[j.toNat] := List.getElem?_eq_getElem hj
        refine ⟨_,_,h3 _ hy,?_,main a _ cap N p _ hw ha hsz h1 h2⟩
        have := DenL.rp (S := S) (X := X) (p := 0) g1 g2 g3 (q2 _ _ hy) (q3 _ _ hy) .nil
        rw [hk]; exact this
      · rename_i q he
        rw [he] at hx
        split at h
        · rename_i fz ex e' c l hcon
          obtain ⟨hc,h⟩ := bif_true h
          obtain ⟨hc1,hc2⟩ := and_tt hc
          obtain ⟨hq,h3⟩ := h
          obtain ⟨h1,h2⟩ := hq.out
          have hk := beq_nat hc1
          have hsz := (ok.size e (by rw [hk]; exact nbeq_nat hc2)).1
          obtain ⟨N,k1,k2⟩ := olDen_list hx hcon
          obtain ⟨a,cap,hw,ha⟩ := olVal_len k2
          obtain ⟨M,rfl,ha2⟩ := ha (by omega)
          refine ⟨_,_,h3,.olp (N := M) (p := 0 + j.toNat * S.size e) ?_ .nil,main a _ cap M 0 _ hw ha2 hsz h1 h2⟩
          unfold olpDen
          rw [conAt_get hcon (by simp)]
          exact ⟨k1,by rw [hk]; simp⟩
        · exact h.elim
      · rename_i q base m he
        rw [he] at hx
        split at h
        · rename_i fz ex e' c l hcon
          obtain ⟨hc,h⟩ := bif_true h
          obtain ⟨hc1,hc2⟩ := and_tt hc
          obtain ⟨hq,h3⟩ := h
          obtain ⟨h1,h2⟩ := hq.out
          have hk := beq_nat hc1
          have hsz := (ok.size e (by rw [hk]; exact nbeq_nat hc2)).1
          obtain ⟨N,k1,k2⟩ := oslDen_list hx hcon
          obtain ⟨a,cap,hw,ha⟩ := oslVal_len k2
          obtain ⟨M,rfl,ha2⟩ := ha (by omega)
          refine ⟨_,_,h3,.olp (N := M) (p := base * S.k c + j.toNat * S.size e) ?_ .nil,main a _ cap M _ _ hw ha2 hsz h1 h2⟩
          unfold olpDen
          rw [conAt_get hcon (by simp)]
          exact ⟨k1,by rw [hk,Nat.add_mul,Nat.add_zero]⟩
        · exact h.elim
      · exact h.elim
    · rename_i n e k j hd hi
      have hi' := E i
      rw [hi] at hi'
      have ei := int_inv hi'
      have hu := ok.arr t n e hd
      have hx := E x
      cases hz : Nat.beq (S.size e) 0 with
      | true => rw [hz] at h; exact h.elim
      | false =>
        rw [hz] at h
        have hsz := (ok.size e (by intro e'; rw [e'] at hz; cases hz)).1
        have main : ∀ (N p : Nat),fr.eval x = .pointer (some ⟨N,p,none⟩) → 0 ≤ j ∧ j < n → ∀ s : St,evPlain T fr.eval (.indexAddr t x i) s = some (.pointer (some ⟨N,p + j.toNat * S.size e,none⟩),s) := by
          intro N p h1 h2 s
          unfold evPlain
          simp only [lift]
          unfold indexAddr
          simp only [hu,h1,ei,hsz]
          rw [if_pos h2]
        simp only [cond_false] at h
        split at h
        · rename_i he; rw [he] at hx
          obtain ⟨hq,h⟩ := h
          obtain ⟨N,hN,hw⟩ := ptr_inv hx
          exact ⟨_,_,h,.ptr hN .nil,main _ _ hw hq.out⟩
        · rename_i he; rw [he] at hx
          obtain ⟨hq,h⟩ := h
          obtain ⟨N,b,ws,e',hi,cs,hw,q1,q2,q3,q4,q5⟩ := rp_inv hx
          refine ⟨_,_,h,?_,main _ _ hw hq.out⟩
          rw [Nat.add_assoc]
          exact .rp q1 q2 q3 q4 q5 .nil
        · rename_i a u p he; rw [he] at hx
          obtain ⟨hc,h⟩ := h
          obtain ⟨N,p',hw,hq⟩ := olp_inv hx
          refine ⟨_,_,h,.olp (N := N) (p := p' + j.toNat * S.size e) ?_ .nil,main _ _ hw hc.out⟩
          unfold olpDen at hq ⊢
          split at hq
          · exact ⟨hq.1,by rw [hq.2,Nat.add_assoc]⟩
          · trivial
          · exact hq.elim
        · exact h.elim
    · exact h.elim
  | index t x i =>
    simp only [pureStep] at h
    split at h
    · rename_i s k j hd hs hi
      have hx := E x
      rw [hs] at hx
      have ex := str_inv hx
      have hi' := E i
      rw [hi] at hi'
      have ei := int_inv hi'
      obtain ⟨hq,h3⟩ := h
      obtain ⟨h1,h2⟩ := hq.out
      have hj : j.toNat < s.length := by omega
      have hy : s[j.toNat]? = some s[j.toNat] := List.getElem?_eq_getElem hj
      refine ⟨_,_,h3 _ hy,.int .nil,fun st => ?_⟩
      unfold evPlain
      simp only [lift]
      unfold index
      simp only [ok.str t hd,ex,ei,h1,if_true,hy,Option.map_some]
    · rename_i n el l k j hd hs hi
      have hx := E x
      rw [hs] at hx
      obtain ⟨vs,hw,hl⟩ := agg_inv hx
      have hi' := E i
      rw [hi] at hi'
      have ei := int_inv hi'
      cases hz : Nat.beq (S.size el) 0 with
      | true => rw [hz] at h; exact h.elim
      | false =>
        rw [hz] at h
        have hn : S.size el ≠ 0 := by intro e'; rw [e'] at hz; cases hz
        obtain ⟨hsz,d,e5,e6⟩ := ok.size el hn
        obtain ⟨hq,h⟩ := h
        have hq := hq.out
        obtain ⟨hc,h⟩ := bif_true h
        have hc1 : j.toNat * S.size el + S.size el ≤ l.length := by rw [← lenL_eq]; exact Nat.le_of_ble_eq_true hc
        cases ha : S.agg el with
        | true =>
          rw [ha] at h
          refine ⟨_,.agg ⟨(vs.drop (j.toNat * S.size el)).take (S.size el)⟩,h,.agg ((hl.drop _).take _) .nil,fun s => ?_⟩
          unfold evPlain
          simp only [lift]
          unfold index
          simp only [ok.arr t n el hd,hw,ei,hsz]
          rw [if_pos hq]
          unfold Ev.part
          simp only [e5,e6,ha,if_true,hsz]
        | false =>
          rw [ha] at h
          obtain ⟨w,k1,k2⟩ := hl.nth (j.toNat * S.size el) (by omega)
          refine ⟨_,w,h,k2,fun s => ?_⟩
          unfold evPlain
          simp only [lift]
          unfold index
          simp only [ok.arr t n el hd,hw,ei,hsz]
          rw [if_pos hq]
          unfold Ev.part
          simp only [e5,e6,ha,Bool.false_eq_true,if_false,k1]
    · exact h.elim
  | typeAssert x a t q =>
    simp only [pureStep] at h
    have : S.td t ≠ .none ∧ S.td t ≠ .iface ∧ (match evo F x with
      | .iface u v => bif Nat.beq u t then K (bif q then .tup [v,.bool true] else v) else False
      | _ => False) := by
      split at h
      · exact h.elim
      · exact h.elim
      · rename_i h1 h2; exact ⟨h2,h1,h⟩
    obtain ⟨h1,h2,h3⟩ := this
    obtain ⟨d,g1,g2⟩ := ok.other t h1 h2
    have hx := E x
    split at h3
    · rename_i u v he
      rw [he] at hx
      obtain ⟨w,hw,hv⟩ := iface_inv hx
      obtain ⟨hc,hK⟩ := bif_true h3
      have := beq_nat hc; subst this
      cases q with
      | true =>
        refine ⟨_,.tuple #[w,.bool true],hK,.tup (DenL.cons hv (.bool .nil)) .nil,fun s => ?_⟩
        unfold evPlain
        simp only [lift]
        unfold typeAssert
        rw [g1,hw]
        cases d with
        | interface m => exact absurd rfl (g2 m)
        | _ => simp
      | false =>
        refine ⟨_,w,hK,hv,fun s => ?_⟩
        unfold evPlain
        simp only [lift]
        unfold typeAssert
        rw [g1,hw]
        cases d with
        | interface m => exact absurd rfl (g2 m)
        | _ => simp
    · exact h3.elim
  | extract x i =>
    simp only [pureStep] at h
    have hx := E x
    split at h
    · rename_i l he
      rw [he] at hx
      obtain ⟨vs,hw,hl⟩ := tup_inv hx
      obtain ⟨hc,h⟩ := bif_true h
      obtain ⟨w,k1,k2⟩ := hl.nth i (by rw [← lenL_eq]; exact Nat.le_of_ble_eq_true hc)
      exact ⟨_,w,h,k2,fun s => by unfold evPlain; simp only [hw,extractOf,k1,lift]⟩
    · exact h.elim
  | call c =>
    obtain ⟨f,a,ts⟩ := c
    cases f with
    | builtin b =>
      cases b with
      | len =>
        simp only [pureStep] at h
        split at h
        · rename_i x t ha ht
          have hx := E x
          have main : ∀ n : Nat,Ev.len T [t] [fr.eval x] = ret (goInt n) → ∀ s : St,evPlain T fr.eval (.call ⟨.builtin .len,a,ts⟩) s = some (.int .i64 n,s) := by
            intro n hn s
            unfold evPlain
            simp only [ha,ht,List.map_cons,List.map_nil]; unfold Ev.builtin; simp only [hn]; rfl
          split at h
          · rename_i hd
            split at h
            · rename_i s he
              rw [he] at hx
              have ex := str_inv hx
              exact ⟨_,_,h,.int .nil,main _ (by unfold Ev.len; simp only [ok.str t hd,ex])⟩
            · exact h.elim
          · rename_i e hd
            have hu := ok.slice t e hd
            have fin : ∀ (q : Option Addr) (m cap : Nat),fr.eval x = .slice q m cap → Ev.len T [t] [fr.eval x] = ret (goInt m) := by
              intro q m cap hw; unfold Ev.len; simp only [hu,hw]
            unfold lenSV at h
            split at h
            · rename_i he
              rw [he] at hx
              have hw : fr.eval x = .slice none 0 0 := by generalize fr.eval x = w at hx; cases hx; rfl
              exact ⟨_,_,h,.int .nil,main _ (fin _ _ _ hw)⟩
            · rename_i l he
              rw [he] at hx
              obtain ⟨q,cap,N,p,ws,e',hi,cs,hw,_,_,_,_,hlt⟩ := sl_inv hx
              exact ⟨_,_,h hlt,.int .nil,main _ (fin _ _ _ hw)⟩
            · rename_i q he
              rw [he] at hx
              split at h
              · rename_i hcon
                obtain ⟨N,k1,k2⟩ := olDen_list hx hcon
                obtain ⟨q,cap,hw,_⟩ := olVal_len k2
                exact ⟨_,_,h (hr.ok _ _ _ (conAt_get hcon (by simp)) k1).1,.int .nil,main _ (fin _ _ _ hw)⟩
              · exact h.elim
            · rename_i q base m he
              rw [he] at hx
              split at h
              · rename_i fz ex e' c l hcon
                obtain ⟨N,k1,k2⟩ := oslDen_list hx hcon
                have hE : l.length < END := (hr.ok _ _ _ (conAt_get hcon (by simp)) k1).1
                have hle := k2.1
                obtain ⟨q,cap,hw,_⟩ := oslVal_len k2
                exact ⟨_,_,h (Nat.lt_of_le_of_lt (by omega) hE),.int .nil,main _ (fin _ _ _ hw)⟩
              · exact h.elim
            · exact h.elim
          · exact h.elim
        · exact h.elim
      | min =>
        simp only [pureStep] at h
        have hA := evos_den hF a.toList
        split at h
        · rename_i k x r he
          rw [he] at hA
          obtain ⟨w,ws,e1,e2,e3⟩ := hA.uncons
          have e4 := int_inv e2
          subst e4
          obtain ⟨sv,v,g1,g2,g3⟩ := minmax_sound h e3
          exact ⟨sv,v,g1,g2,fun s => by unfold evPlain; simp only; unfold Ev.builtin; simp only [e1,Ev.minmax,lift,g3]⟩
        · exact h.elim
      | max =>
        simp only [pureStep] at h
        have hA := evos_den hF a.toList
        split at h
        · rename_i k x r he
          rw [he] at hA
          obtain ⟨w,ws,e1,e2,e3⟩ := hA.uncons
          have e4 := int_inv e2
          subst e4
          obtain ⟨sv,v,g1,g2,g3⟩ := minmax_sound h e3
          exact ⟨sv,v,g1,g2,fun s => by unfold evPlain; simp only; unfold Ev.builtin; simp only [e1,Ev.minmax,lift,g3]⟩
        · exact h.elim
      | _ => exact h.elim
    | _ => exact h.elim
  | _ => exact h.elim
end Go.Sx

/-
  SX, PART F: the symbolic walk: memory, calls, regions, code.
-/
namespace Go.Sx
open Go Go.Ev Go.RowKit
variable {U : Nat → Type}
def resL (H : Hp U) : List (SV U) → (List (SV U) → Hp U → Prop) → Prop
  | [],K => K [] H
  | v :: l,K => resL H l fun l H => match v with
    | .ol i => match conAt H i with
      | .list _ ex e c d => K (.sl c d :: l) (setC H i (.list true ex e c d))
      | _ => False
    | .osl i lo n => match conAt H i with
      | .list _ ex e c d => K (.sl c ((d.drop lo).take n) :: l) (setC H i (.list true ex e c d))
      | _ => False
    | v => K (v :: l) H
def castL {c d : Nat} (l : List (U c)) (K : List (U d) → Prop) : Prop := match Nat.decEq c d with
  | .isTrue h => (h ▸ K : List (U c) → Prop) l
  | .isFalse _ => False
def known : SV U → Bool
  | .undef => false
  | .skip => false
  | _ => true
def elemsS (S : Sys U) (F : Frm U) (c n : Nat) : Nat → List (Nat × Operand) → Hp U → (List (U c) → Hp U → Prop) → Prop
  | i,[],H,K => bif Nat.beq i n then K [] H else False
  | i,(j,x) :: ps,H,K => bif Nat.beq i j && known (evo F x) then resL H (cellsSV (evo F x)) fun cs H => match S.of c cs with
    | some y => elemsS S F c n (Nat.succ i) ps H fun l H => K (y :: l) H
    | none => False
   else False
def oneL (l : List (SV U)) : Bool := l.all one
def layStep (S : Sys U) (F : Frm U) (H : Hp U) (o : Op) (K : SV U → Hp U → Prop) : Prop := match o with
  | .alloc e => bif Nat.beq (lenL (S.zero e)) 0 then False else K (.ptr (lenH H) 0) (snoc H (.cells false e (S.zero e)))
  | .box e x => bif known (evo F x) then K (.ptr (lenH H) 0) (snoc H (.cells false e (cellsSV (evo F x)))) else False
  | .buildSlice t n ps => match S.td t with
    | .slice e => bif Nat.beq (S.size e) (S.k (S.ty e)) && !Nat.beq (S.size e) 0 && Nat.beq (lenL (S.zero e)) (S.size e) && Nat.ble (n * S.size e) 16777216 then
        elemsS S F (S.ty e) n 0 ps.toList H fun l H => K (.ol (lenH H)) (snoc H (.list false true e (S.ty e) l))
      else False
    | _ => False
  | .makeSlice t l c => match S.td t,evo F l,evo F c with
    | .slice e,.int _ a,.int _ b => bif Nat.beq (S.size e) (S.k (S.ty e)) && !Nat.beq (S.size e) 0 && Nat.beq (lenL (S.zero e)) (S.size e) && !Nat.beq (S.bytes e) 0 then
        match S.of (S.ty e) (S.zero e) with
        | some z => Chk (a = b ∧ 0 ≤ a ∧ S.bytes e * a ≤ 140737488355328) ∧ K (.ol (lenH H)) (snoc H (.list false true e (S.ty e) (List.replicate a.toNat z)))
        | none => False
      else False
    | _,_,_ => False
  | _ => False
def loadCells (S : Sys U) (t : TypeId) (vs : List (SV U)) (o : Nat) (K : SV U → Prop) : Prop :=
  bif !Nat.beq (S.size t) 0 && Nat.ble (o + S.size t) (lenL vs) then (bif S.agg t then K (.agg (takeL (dropL vs o) (S.size t))) else K (nth vs o)) else False
def loadStep (S : Sys U) (F : Frm U) (H : Hp U) (o : Op) (K : SV U → Prop) : Prop := match o with
  | .load t a => match evo F a with
    | .ptr i o => match conAt H i with
      | .cells _ _ vs => loadCells S t vs o K
      | _ => False
    | .rp c x o => loadCells S t (S.cells c x) o K
    | .olp i j o => match conAt H i with
      | .list _ _ _ c l => Chk (j < l.length) ∧ ∀ x,l[j]? = some x → loadCells S t (S.cells c x) o K
      | _ => False
    | _ => False
  | _ => False
def listOf (H : Hp U) (c : Nat) (v : SV U) (K : List (U c) → Prop) : Prop := match v with
  | .nilS => K []
  | .sl _ l => castL l K
  | .ol i => match conAt H i with
    | .list _ _ _ _ l => castL l K
    | _ => False
  | .osl i lo n => match conAt H i with
    | .list _ _ _ _ l => castL ((l.drop lo).take n) K
    | _ => False
  | _ => False
def appK (S : Sys U) (e : TypeId) (l1 l2 : List (U (S.ty e))) (H : Hp U) (K : SV U → Hp U → Prop) : Prop :=
  Chk ((l1.length + l2.length) * S.bytes e ≤ 140737488355328) ∧ K (.ol (lenH H)) (snoc H (.list false false e (S.ty e) (l1 ++ l2)))
def isNilL {α : Type} : List α → Bool
  | [] => true
  | _ => false
def appS (S : Sys U) (H : Hp U) (e : TypeId) (base x : SV U) (K : SV U → Hp U → Prop) : Prop := match base with
  | .nilS => listOf H (S.ty e) x fun l => appK S e [] l H K
  | .ol i => match conAt H i with
    | .list false false e' _ d => bif !Nat.beq e' e then False else castL d fun l1 => listOf H (S.ty e) x fun l2 => appK S e l1 l2 (setC H i .dead) K
    | .list _ true _ _ d => castL d fun l1 => listOf H (S.ty e) x fun l2 => bif isNilL l1 || !isNilL l2 then appK S e l1 l2 H K else False
    | _ => False
  | .osl i lo n => match conAt H i with
    | .list false false e' _ d => bif !Nat.beq e' e then False else castL d fun l1 => listOf H (S.ty e) x fun l2 => Chk (lo = 0) ∧ appK S e (l1.take n) l2 (setC H i .dead) K
    | _ => False
  | _ => False
structure Spec (U : Nat → Type) where
  wr : Bool
  own : Bool
  run : Hp U → List (SV U) → (SV U → Hp U → Prop) → Prop
def viewB (S : Sys U) (H : Hp U) (v : SV U) : SV U := match v with
  | .ptr i 0 => (match conAt H i with
    | .cells _ e vs => (match S.of (S.ty e) vs with
      | some x => .rp (S.ty e) x 0
      | none => .ptr i 0)
    | _ => .ptr i 0)
  | v => v
def mapSV (f : SV U → SV U) : List (SV U) → List (SV U)
  | [] => []
  | v :: l => f v :: mapSV f l
def viewL (S : Sys U) (H : Hp U) : List (SV U) → List (SV U)
  | [] => []
  | .ol i :: l => (match conAt H i with
    | .list _ _ _ c d => .sl c d
    | _ => .ol i) :: viewL S H l
  | .osl i lo n :: l => (match conAt H i with
    | .list _ _ _ c d => .sl c ((d.drop lo).take n)
    | _ => .osl i lo n) :: viewL S H l
  | .func g a c :: l => .func g (mapSV (viewB S H) a) (mapSV (viewB S H) c) :: viewL S H l
  | v :: l => v :: viewL S H l
def boxOf : SV U → List Nat
  | .ptr i 0 => [i]
  | _ => []
def boxesOf : List (SV U) → List Nat
  | [] => []
  | v :: l => boxOf v ++ boxesOf l
def olsOf : List (SV U) → List Nat
  | [] => []
  | .ol i :: l => i :: olsOf l
  | .osl i _ _ :: l => i :: olsOf l
  | .func _ a c :: l => boxesOf a ++ (boxesOf c ++ olsOf l)
  | _ :: l => olsOf l
def plain1 : SV U → Bool
  | .int _ _ | .bool _ | .str _ | .nilP | .nilS | .nilF | .nilI | .nilM => true
  | _ => false
def plainV : SV U → Bool
  | .agg l => l.all plain1
  | .tup l => l.all fun v => plain1 v || (match v with | .iface _ x => plain1 x | _ => false)
  | .iface _ x => plain1 x
  | v => plain1 v
def frzH (H : Hp U) : List Nat → Hp U
  | [] => H
  | i :: l => match conAt (frzH H l) i with
    | .list _ ex e c d => setC (frzH H l) i (.list true ex e c d)
    | .cells _ e vs => setC (frzH H l) i (.cells true e vs)
    | _ => frzH H l
def callStep (S : Sys U) (C : FuncId → Option (Spec U)) (H : Hp U) (g : FuncId) (args : List (SV U)) (K : SV U → Hp U → Prop) : Prop := match C g with
  | some sp => bif sp.own then sp.run H args K else match olsOf args with
    | [] => sp.run H args K
    | ids => sp.run (frzH H ids) (viewL S H args) fun r H' => bif plainV r && !sp.wr then K r H else K r H'
  | none => False
def YB : Nat := 1152921504606846976
def yldStep (C : FuncId → Option (Spec U)) (H : Hp U) (i : Nat) (args : List (SV U)) (K : SV U → Hp U → Prop) : Prop := match C (Nat.add YB i) with
  | some sp => bif sp.wr then sp.run H args K else False
  | none => False
def bigStep (S : Sys U) (C : FuncId → Option (Spec U)) (F : Frm U) (H : Hp U) (o : Op) (K : SV U → Hp U → Prop) : Prop := match o with
  | .store t a x => match evo F a with
    | .ptr i o => match conAt H i with
      | .cells false e vs => bif known (evo F x) && Nat.beq (lenL (cellsSV (evo F x))) (S.size t) && !Nat.beq (S.size t) 0 && Nat.ble (o + S.size t) (lenL vs) && oneL (cellsSV (evo F x)) then K .undef (setC H i (.cells false e (putL vs o (cellsSV (evo F x))))) else False
      | _ => False
    | .olp i j o => match conAt H i with
      | .list false ex e c l => bif known (evo F x) && Nat.beq (lenL (cellsSV (evo F x))) (S.size t) && !Nat.beq (S.size t) 0 && Nat.ble (o + S.size t) (S.k c) && oneL (cellsSV (evo F x)) then
          Chk (j < l.length) ∧ ∀ y,l[j]? = some y → match S.of c (putL (S.cells c y) o (cellsSV (evo F x))) with
            | some z => K .undef (setC H i (.list false ex e c (l.set j z)))
            | none => False
        else False
      | _ => False
    | _ => False
  | .convert a b x => match S.td a,S.td b,evo F x with
    | .int _,.int k,.int _ n => arith k n fun v => K v H
    | .str,.str,.str s => K (.str s) H
    | _,_,_ => False
  | .call ⟨.builtin .append,a,ts⟩ => match a.toList,ts.toList with
    | [x,y],[t,u] => match S.td t,S.td u with
      | .slice e,.slice _ => bif Nat.beq (S.size e) (S.k (S.ty e)) && !Nat.beq (S.size e) 0 && Nat.beq (lenL (S.zero e)) (S.size e) && !Nat.beq (S.bytes e) 0 then appS S H e (evo F x) (evo F y) K else False
      | _,_ => False
    | _,_ => False
  | .call ⟨.builtin .copy,a,ts⟩ => match a.toList,ts.toList with
    | [x,y],t :: _ => match S.td t with
      | .slice e => match evo F x with
        | .ol i => match conAt H i with
          | .list false ex e' c l1 => bif Nat.beq (S.size e) (S.k c) && !Nat.beq (S.size e) 0 then listOf H c (evo F y) fun l2 => Chk (l2.length = l1.length) ∧ K (.int .i64 l1.length) (setC H i (.list false ex e' c l2)) else False
          | _ => False
        | _ => False
      | _ => False
    | _,_ => False
  | .call ⟨.builtin .clear,a,ts⟩ => match a.toList,ts.toList with
    | [x],[t] => match S.td t with
      | .slice e => match evo F x with
        | .nilS => K (.tup []) H
        | .osl i lo n => match conAt H i with
          | .list false ex e' c l => bif Nat.beq (S.size e) (S.k c) && !Nat.beq (S.size e) 0 && Nat.beq (lenL (S.zero e)) (S.size e) then (match S.of c (S.zero e) with
            | some z => K (.tup []) (setC H i (.list false ex e' c (l.take lo ++ (List.replicate n z ++ l.drop (lo + n)))))
            | none => False) else False
          | _ => False
        | _ => False
      | _ => False
    | _,_ => False
  | .range t x => match S.td t,evo F x with
    | .str,.str s => K (.ptr (lenH H) 0) (snoc H (.siter s 0))
    | _,_ => False
  | .next x str => match str,evo F x with
    | true,.ptr i 0 => match conAt H i with
      | .siter s p => (p < s.length → ∀ c w,Utf8.decode ⟨⟨s⟩⟩ p = (c,w) → K (.tup [.bool true,.int .i64 p,.int .i32 c]) (setC H i (.siter s (p + w)))) ∧ (¬ p < s.length → K (.tup [.bool false]) H)
      | _ => False
    | _,_ => False
  | .call ⟨.value f,a,_⟩ => match evo F f with
    | .func g b c => bif Nat.blt g YB then callStep S C H g (b ++ (a.toList.map (evo F) ++ c)) K else False
    | .yld i => yldStep C H i (a.toList.map (evo F)) K
    | _ => False
  | _ => False
def writes (C : FuncId → Option (Spec U)) (F : Frm U) (H : Hp U) : Op → Bool
  | .convert _ _ _ => false
  | .call ⟨.builtin .append,a,_⟩ => match a.toList with
    | x :: _ => (match evo F x with
      | .nilS => false
      | .ol i => (match conAt H i with
        | .list _ true _ _ _ => false
        | _ => true)
      | _ => true)
    | _ => true
  | .call ⟨.value f,_,_⟩ => match evo F f with
    | .func g _ _ => match C g with
      | some sp => sp.wr
      | none => true
    | .yld i => match C (Nat.add YB i) with
      | some sp => sp.wr
      | none => true
    | _ => true
  | _ => true
def ifB (b w : Bool) (A B : Prop) : Prop := match w with
  | true => (b = true → A) ∧ (b = false → B)
  | false => (b = false → A) ∧ (b = true → B)
theorem ifB_eq {b w : Bool} {A B : Prop} (h : ifB b w A B) : (b = w → A) ∧ (b = (!w) → B) := by cases w <;> exact h
def gval (ops : List Oper) (F : Frm U) (j : Nat) : SV U := match ops,j with
  | [],_ => .undef
  | o :: _,0 => (match o.dst with | some d => get F d | none => .undef)
  | _ :: l,j + 1 => gval l F j
def kindO (o : Op) : Nat := match o with
  | .move _ | .assign _ | .pick .. | .build .. | .nilCheck _ | .binOp .. | .unOp .. | .makeInterface .. | .makeFunc .. | .slice .. | .fieldAddr .. | .field .. | .indexAddr .. | .index .. | .typeAssert .. | .extract .. => 0
  | .call ⟨.builtin .min,_,_⟩ | .call ⟨.builtin .max,_,_⟩ | .call ⟨.builtin .len,_,_⟩ => 0
  | .alloc _ | .box .. | .buildSlice .. | .makeSlice .. => 1
  | .load .. => 2
  | _ => 3
def step (S : Sys U) (C : FuncId → Option (Spec U)) (F : Frm U) (H : Hp U) (o : Op) (K : SV U → Hp U → Prop) : Prop := match kindO o with
  | 0 => pureStep S F H o fun v => K v H
  | 1 => layStep S F H o K
  | 2 => loadStep S F H o fun v => K v H
  | _ => bigStep S C F H o K
def after (nt : Nat) (dst : Option Nat) (F : Frm U) (v : SV U) (H : Hp U) (K : Frm U → Hp U → Prop) : Prop := force v fun v => forceH H fun H => match dst with
  | some d => bif Nat.blt d nt then K ((d,v) :: F) H else False
  | none => K F H
def wpOps (S : Sys U) (C : FuncId → Option (Spec U)) (nt : Nat) (all : List Oper) (ops : List Oper) : Frm U → Hp U → (Frm U → Hp U → Prop) → Prop :=
  List.rec (motive := fun _ => Frm U → Hp U → (Frm U → Hp U → Prop) → Prop) (fun F H K => K F H) (fun o _ R F H K => match o with
    | ⟨dst,op,_,_,_,none⟩ => step S C F H op fun v H => after nt dst F v H fun F H => R F H K
    | ⟨dst,op,_,_,_,some (j,w)⟩ => match gval all F j with
      | .bool b => ifB b w (step S C F H op fun v H => after nt dst F v H fun F H => R F H K) (after nt dst F .skip H fun F H => R F H K)
      | .skip => after nt dst F .skip H fun F H => R F H K
      | _ => False) ops
end Go.Sx

/-
  SX, PART G: the symbolic heap and the heap: how both go on.
-/
namespace Go.Sx
open Go Go.Ev Go.RowKit
variable {U : Nat → Type} {T : Tab} {S : Sys U} {X : Env U}
theorem snoc_eq : ∀ (H : Hp U) (c : Con U),snoc H c = H ++ [c]
  | [],_ => rfl
  | a :: l,c => by simp [snoc,snoc_eq l c]
theorem setC_eq : ∀ (H : Hp U) (i : Nat) (c : Con U),setC H i c = H.set i c
  | [],_,_ => rfl
  | _ :: _,0,_ => rfl
  | a :: l,i + 1,c => by simp [setC,setC_eq l i c]
theorem lenH_eq : ∀ H : Hp U,lenH H = H.length
  | [] => rfl
  | _ :: l => by simp [lenH,lenH_eq l]
def Same (c c' : Con U) : Prop := ∀ fz ex e k l,c' = Con.list fz ex e k l → ∃ fz' l',c = Con.list fz' ex e k l' ∧ l'.length = l.length
theorem Same.refl (c : Con U) : Same c c := fun fz _ _ _ l h => ⟨fz,l,h,rfl⟩
theorem Same.cells {c : Con U} {fz : Bool} {e : TypeId} {vs : List (SV U)} : Same c (.cells fz e vs) := fun _ _ _ _ _ h => by cases h
theorem Same.dead {c : Con U} : Same c .dead := fun _ _ _ _ _ h => by cases h
theorem Same.list {fz fz' ex : Bool} {e : TypeId} {k : Nat} {l l' : List (U k)} (h : l.length = l'.length) : Same (.list fz ex e k l) (.list fz' ex e k l') := fun _ _ _ _ _ h' => by cases h'; exact ⟨_,_,rfl,h⟩
structure Step (S : Sys U) (X : Env U) (s : St) (X' : Env U) (s' : St) (d : List Nat) : Prop where
  wb : X'.wb = X.wb
  t : X'.t = s'.t
  n : X'.n = s'.next
  rel : HRel S X'
  later : Later X X'
  next : s.next ≤ s'.next
  live : ∀ N,N < s.next → X'.liveN N → X.liveN N
  mods : s'.mods = d ++ s.mods
  dl : ∀ N ∈ d,N < s.next ∧ X.liveN N
  old : ∀ N,N < s.next → N ∉ d → s'.t.get N = s.t.get N
  ns : X.ns <+: X'.ns
structure StepW (S : Sys U) (X : Env U) (s : St) (X' : Env U) (s' : St) (d : List Nat) : Prop where
  wb : X'.wb = X.wb
  t : X'.t = s'.t
  n : X'.n = s'.next
  rel : HRel S X'
  later : Later X X'
  next : s.next ≤ s'.next
  live : ∀ N,N < s.next → X'.liveN N → X.liveN N
  mods : s'.mods = d ++ s.mods
  dl : ∀ N ∈ d,N < s'.next ∧ (N < s.next → X.liveN N)
  old : ∀ N,N < s.next → N ∉ d → s'.t.get N = s.t.get N
  ns : X.ns <+: X'.ns
theorem Step.w {X' : Env U} {s s' : St} {d : List Nat} (g : Step S X s X' s' d) : StepW S X s X' s' d := ⟨g.wb,g.t,g.n,g.rel,g.later,g.next,g.live,g.mods,fun N hN => ⟨Nat.lt_of_lt_of_le (g.dl N hN).1 g.next,fun _ => (g.dl N hN).2⟩,g.old,g.ns⟩
theorem ConOk.later {X' : Env U} (h : Later X X') {N : Option Nat} {c : Con U} (hM : ∀ M,N = some M → X'.t.get M = X.t.get M) (hc : ConOk S X N c) : ConOk S X' N c := by
  cases c with
  | dead => trivial
  | loop r st pd =>
    obtain ⟨M,h1,h2,h3⟩ := hc
    exact ⟨M,h1,(hM M h1).trans h2,Nat.lt_of_lt_of_le h3 h.n⟩
  | siter x p =>
    obtain ⟨M,h1,h2,h3⟩ := hc
    exact ⟨M,h1,(hM M h1).trans h2,Nat.lt_of_lt_of_le h3 h.n⟩
  | cells fz e vs =>
    obtain ⟨M,ws,h1,h2,h3,h4,h5⟩ := hc
    exact ⟨M,ws,h1,(hM M h1).trans h2,h3.later h,Nat.lt_of_lt_of_le h4 h.n,fun hf => (h.mem M h4 (h5 hf)).2⟩
  | list fz ex e c l =>
    obtain ⟨h0,hc⟩ := hc
    refine ⟨h0,?_⟩
    cases N with
    | none => exact hc
    | some M =>
      obtain ⟨ws,cs,h2,h3,h4,h5,h6,h7⟩ := hc
      exact ⟨ws,cs,(hM M rfl).trans h2,h3,h4,fun j x hx => (h5 j x hx).later h,Nat.lt_of_lt_of_le h6 h.n,fun hf => (h.mem M h6 (h7 hf)).2⟩
theorem Later.of {ns' : List (Option Nat)} {H' : Hp U} {t' : Tree} {n' : Nat} (hH : ∀ (i : Nat) c,X.H[i]? = some c → ∃ c',H'[i]? = some c' ∧ Same c c')
    (hl : ∀ (i : Nat) c',H'[i]? = some c' → c'.live = true → ∀ N,(X.ns ++ ns')[i]? = some (some N) → N < X.n → X.liveN N) (ht : ∀ N,N < X.n → ¬ X.fb N → t'.get N = X.t.get N) (hn : X.n ≤ n') : Later X ⟨X.wb,X.ns ++ ns',H',t',n'⟩ := by
  refine ⟨fun i N h => ?_,hH,fun N hN hf => ⟨ht N hN hf,fun h => ?_⟩,hn⟩
  · show (X.ns ++ ns')[i]? = some N
    rw [List.getElem?_append_left (List.getElem?_eq_some_iff.1 h).1]; exact h
  · rcases h with h | ⟨i,c,h1,h2,h3⟩
    · exact hf (.inl h)
    · exact hf (.inr (hl i c h2 h3 N h1 hN))
theorem HRel.lay (hr : HRel S X) {c : Con U} {t' : Tree} (ht : ∀ M,M ≠ X.n → t'.get M = X.t.get M) (hc : ∀ X' : Env U,Later X X' → X'.t = t' → X'.n = X.n + 1 → (∀ M,X'.fb M → c.live = false → M = X.n → False) → ConOk S X' (some X.n) c) :
    Later X ⟨X.wb,X.ns ++ [some X.n],X.H ++ [c],t',X.n + 1⟩ ∧ HRel S ⟨X.wb,X.ns ++ [some X.n],X.H ++ [c],t',X.n + 1⟩ := by
  have hlive : ∀ (i : Nat) c',(X.H ++ [c])[i]? = some c' → c'.live = true → ∀ N,(X.ns ++ [some X.n])[i]? = some (some N) → N < X.n → X.liveN N := by
    intro i c' h1 h2 N h3 h4
    by_cases hi : i < X.H.length
    · rw [List.getElem?_append_left hi] at h1
      rw [List.getElem?_append_left (hr.len ▸ hi)] at h3
      exact ⟨i,c',h3,h1,h2⟩
    · have hi' : X.ns.length ≤ i := by rw [hr.len]; omega
      rw [List.getElem?_append_right hi'] at h3
      have := List.getElem?_eq_some_iff.1 h3
      obtain ⟨h5,h6⟩ := this
      simp at h5
      simp [h5] at h6
      omega
  have hL : Later X ⟨X.wb,X.ns ++ [some X.n],X.H ++ [c],t',X.n + 1⟩ := by
    refine Later.of (fun i c' h => ⟨c',?_,Same.refl _⟩) hlive (fun N hN _ => ht N (by omega)) (by omega)
    rw [List.getElem?_append_left (List.getElem?_eq_some_iff.1 h).1]; exact h
  refine ⟨hL,?_⟩
  have cases' : ∀ (i : Nat) (N : Option Nat),(X.ns ++ [some X.n])[i]? = some N → X.ns[i]? = some N ∧ i < X.H.length ∨ i = X.H.length ∧ N = some X.n := by
    intro i N h
    by_cases hi : i < X.H.length
    · rw [List.getElem?_append_left (hr.len ▸ hi)] at h; exact .inl ⟨h,hi⟩
    · right
      have hi' : X.ns.length ≤ i := by rw [hr.len]; omega
      rw [List.getElem?_append_right hi'] at h
      obtain ⟨h5,h6⟩ := List.getElem?_eq_some_iff.1 h
      simp at h5
      simp [h5] at h6
      exact ⟨by rw [hr.len] at hi' h5; omega,h6.symm⟩
  refine ⟨by simp [hr.len],fun i c' N h1 h2 => ?_,fun i j N h1 h2 => ?_,fun i N h => ?_,fun N hN => Nat.lt_succ_of_lt (hr.wbl N hN)⟩
  · rcases cases' i N h2 with ⟨h3,h4⟩ | ⟨h3,h4⟩
    · have h1 : (X.H ++ [c])[i]? = some c' := h1
      rw [List.getElem?_append_left h4] at h1
      refine (hr.ok i c' N h1 h3).later hL fun M hM => ht M ?_
      subst hM
      exact Nat.ne_of_lt (hr.lt i M h3).1
    · have h1 : (X.H ++ [c])[i]? = some c' := h1
      subst h3 h4
      simp at h1
      subst h1
      refine hc _ hL rfl rfl fun M hM hlv hM' => ?_
      subst hM'
      rcases hM with h | ⟨j,cj,k1,k2,k3⟩
      · exact absurd (hr.wbl _ h) (Nat.lt_irrefl _)
      · rcases cases' j _ k1 with ⟨h5,h6⟩ | ⟨h5,h6⟩
        · exact absurd (hr.lt j _ h5).1 (Nat.lt_irrefl _)
        · subst h5
          have k2 : (X.H ++ [c])[X.H.length]? = some cj := k2
          simp at k2
          subst k2
          rw [hlv] at k3; cases k3
  · rcases cases' i _ h1 with ⟨h3,h4⟩ | ⟨h3,h4⟩ <;> rcases cases' j _ h2 with ⟨h5,h6⟩ | ⟨h5,h6⟩
    · exact hr.inj i j N h3 h5
    · cases h6; exact absurd (hr.lt i _ h3).1 (Nat.lt_irrefl _)
    · cases h4; exact absurd (hr.lt j _ h5).1 (Nat.lt_irrefl _)
    · omega
  · rcases cases' i _ h with ⟨h3,h4⟩ | ⟨h3,h4⟩
    · exact ⟨Nat.lt_succ_of_lt (hr.lt i N h3).1,(hr.lt i N h3).2⟩
    · cases h4; exact ⟨Nat.lt_succ_self _,fun h => absurd (hr.wbl _ h) (Nat.lt_irrefl _)⟩
theorem HRel.put (hr : HRel S X) {i N : Nat} {c c' : Con U} {t' : Tree} (hi : X.H[i]? = some c) (hN : X.ns[i]? = some (some N)) (hc : c.live = true) (hs : Same c c') (ht : ∀ M,M ≠ N → t'.get M = X.t.get M) (ho : ∀ X' : Env U,Later X X' → X'.t = t' → X'.n = X.n → (c'.live = false → ¬ X'.fb N) → ConOk S X' (some N) c') :
    Later X ⟨X.wb,X.ns,X.H.set i c',t',X.n⟩ ∧ HRel S ⟨X.wb,X.ns,X.H.set i c',t',X.n⟩ := by
  have hlv : X.liveN N := ⟨i,c,hN,hi,hc⟩
  have hL : Later X ⟨X.wb,X.ns,X.H.set i c',t',X.n⟩ := by
    have := Later.of (X := X) (ns' := []) (H' := X.H.set i c') (t' := t') (n' := X.n) (fun j d h => ?_) (fun j d h1 h2 M h3 _ => ?_) (fun M hM hf => ht M fun e => hf (.inr (e ▸ hlv))) (Nat.le_refl _)
    · simpa using this
    · by_cases e : i = j
      · subst e
        rw [hi] at h; cases h
        exact ⟨c',by rw [List.getElem?_set_self (List.getElem?_eq_some_iff.1 hi).1],hs⟩
      · exact ⟨d,by rw [List.getElem?_set_ne e]; exact h,Same.refl _⟩
    · rw [List.append_nil] at h3
      by_cases e : i = j
      · subst e; rw [hN] at h3; cases h3; exact hlv
      · rw [List.getElem?_set_ne e] at h1; exact ⟨j,d,h3,h1,h2⟩
  refine ⟨hL,by simp [hr.len],fun j d M h1 h2 => ?_,hr.inj,hr.lt,hr.wbl⟩
  have h1 : (X.H.set i c')[j]? = some d := h1
  by_cases e : i = j
  · subst e
    rw [List.getElem?_set_self (List.getElem?_eq_some_iff.1 hi).1] at h1
    cases h1
    have h2 : X.ns[i]? = some M := h2
    rw [hN] at h2; cases h2
    refine ho _ hL rfl rfl fun hd hf => ?_
    rcases hf with h | ⟨j,cj,k1,k2,k3⟩
    · exact (hr.lt i N hN).2 h
    · have k1 : X.ns[j]? = some (some N) := k1
      have := hr.inj _ _ _ k1 hN
      subst this
      have k2 : (X.H.set j c')[j]? = some cj := k2
      rw [List.getElem?_set_self (List.getElem?_eq_some_iff.1 hi).1] at k2
      cases k2
      rw [hd] at k3; cases k3
  · rw [List.getElem?_set_ne e] at h1
    refine (hr.ok j d M h1 h2).later hL fun M' hM' => ht M' fun h => e ?_
    subst hM' h
    exact hr.inj _ _ _ hN h2
theorem HRel.frz (hr : HRel S X) {i : Nat} {fz ex : Bool} {e c : Nat} {l : List (U c)} (hi : X.H[i]? = some (.list fz ex e c l)) :
    Later X ⟨X.wb,X.ns,X.H.set i (.list true ex e c l),X.t,X.n⟩ ∧ HRel S ⟨X.wb,X.ns,X.H.set i (.list true ex e c l),X.t,X.n⟩ := by
  have hilt := (List.getElem?_eq_some_iff.1 hi).1
  have hL : Later X ⟨X.wb,X.ns,X.H.set i (.list true ex e c l),X.t,X.n⟩ := by
    have := Later.of (X := X) (ns' := []) (H' := X.H.set i (.list true ex e c l)) (t' := X.t) (n' := X.n) (fun j d h => ?_) (fun j d h1 h2 M h3 _ => ?_) (fun M hM hf => rfl) (Nat.le_refl _)
    · simpa using this
    · by_cases e' : i = j
      · subst e'
        rw [hi] at h; cases h
        exact ⟨_,by rw [List.getElem?_set_self hilt],Same.list rfl⟩
      · exact ⟨d,by rw [List.getElem?_set_ne e']; exact h,Same.refl _⟩
    · rw [List.append_nil] at h3
      by_cases e' : i = j
      · subst e'; rw [List.getElem?_set_self hilt] at h1; cases h1; cases h2
      · rw [List.getElem?_set_ne e'] at h1; exact ⟨j,d,h3,h1,h2⟩
  refine ⟨hL,by simp [hr.len],fun j d M h1 h2 => ?_,hr.inj,hr.lt,hr.wbl⟩
  have h1 : (X.H.set i (.list true ex e c l))[j]? = some d := h1
  by_cases e' : i = j
  · subst e'
    rw [List.getElem?_set_self hilt] at h1
    cases h1
    have h3 := hr.ok i _ M hi h2
    have h4 := ConOk.later hL (fun _ _ => rfl) h3
    refine ⟨h4.1,?_⟩
    cases M with
    | none => exact h4.2
    | some M =>
      obtain ⟨_,ws,cs,k1,k2,k3,k4,k5,k6⟩ := h4
      refine ⟨ws,cs,k1,k2,k3,k4,k5,fun _ hf => ?_⟩
      have h2 : X.ns[i]? = some (some M) := h2
      rcases hf with h | ⟨j,cj,g1,g2,g3⟩
      · exact (hr.lt i M h2).2 h
      · have g1 : X.ns[j]? = some (some M) := g1
        have := hr.inj _ _ _ g1 h2
        subst this
        have g2 : (X.H.set j (.list true ex e c l))[j]? = some cj := g2
        rw [List.getElem?_set_self hilt] at g2
        cases g2; cases g3
  · rw [List.getElem?_set_ne e'] at h1
    exact (hr.ok j d M h1 h2).later hL fun _ _ => rfl
theorem HRel.frzC (hr : HRel S X) {i : Nat} {fz : Bool} {e : TypeId} {vs : List (SV U)} (hi : X.H[i]? = some (.cells fz e vs)) :
    Later X ⟨X.wb,X.ns,X.H.set i (.cells true e vs),X.t,X.n⟩ ∧ HRel S ⟨X.wb,X.ns,X.H.set i (.cells true e vs),X.t,X.n⟩ := by
  have hilt := (List.getElem?_eq_some_iff.1 hi).1
  have hL : Later X ⟨X.wb,X.ns,X.H.set i (.cells true e vs),X.t,X.n⟩ := by
    have := Later.of (X := X) (ns' := []) (H' := X.H.set i (.cells true e vs)) (t' := X.t) (n' := X.n) (fun j d h => ?_) (fun j d h1 h2 M h3 _ => ?_) (fun M hM hf => rfl) (Nat.le_refl _)
    · simpa using this
    · by_cases e' : i = j
      · subst e'
        exact ⟨_,by rw [List.getElem?_set_self hilt],Same.cells⟩
      · exact ⟨d,by rw [List.getElem?_set_ne e']; exact h,Same.refl _⟩
    · rw [List.append_nil] at h3
      by_cases e' : i = j
      · subst e'; rw [List.getElem?_set_self hilt] at h1; cases h1; cases h2
      · rw [List.getElem?_set_ne e'] at h1; exact ⟨j,d,h3,h1,h2⟩
  refine ⟨hL,by simp [hr.len],fun j d M h1 h2 => ?_,hr.inj,hr.lt,hr.wbl⟩
  have h1 : (X.H.set i (.cells true e vs))[j]? = some d := h1
  by_cases e' : i = j
  · subst e'
    rw [List.getElem?_set_self hilt] at h1
    cases h1
    have h3 := hr.ok i _ M hi h2
    obtain ⟨N,ws,k0,k1,k2,k3,k4⟩ := ConOk.later hL (fun _ _ => rfl) h3
    refine ⟨N,ws,k0,k1,k2,k3,fun _ hf => ?_⟩
    subst k0
    have h2 : X.ns[i]? = some (some N) := h2
    rcases hf with h | ⟨j,cj,g1,g2,g3⟩
    · exact (hr.lt i N h2).2 h
    · have g1 : X.ns[j]? = some (some N) := g1
      have := hr.inj _ _ _ g1 h2
      subst this
      have g2 : (X.H.set j (.cells true e vs))[j]? = some cj := g2
      rw [List.getElem?_set_self hilt] at g2
      cases g2; cases g3
  · rw [List.getElem?_set_ne e'] at h1
    exact (hr.ok j d M h1 h2).later hL fun _ _ => rfl
theorem Later.liveN_frzC {i : Nat} {e : TypeId} {vs : List (SV U)} {N : Nat} (h : (Env.liveN ⟨X.wb,X.ns,X.H.set i (.cells true e vs),X.t,X.n⟩ N)) : X.liveN N := by
  obtain ⟨j,cj,g1,g2,g3⟩ := h
  have g2 : (X.H.set i (.cells true e vs))[j]? = some cj := g2
  by_cases e' : i = j
  · subst e'
    by_cases hl : i < X.H.length
    · rw [List.getElem?_set_self hl] at g2; cases g2; cases g3
    · rw [List.getElem?_eq_none (by simp; omega)] at g2; cases g2
  · rw [List.getElem?_set_ne e'] at g2; exact ⟨j,cj,g1,g2,g3⟩
theorem Later.liveN_frz {i : Nat} {ex : Bool} {e c : Nat} {l : List (U c)} {N : Nat} (h : (Env.liveN ⟨X.wb,X.ns,X.H.set i (.list true ex e c l),X.t,X.n⟩ N)) : X.liveN N := by
  obtain ⟨j,cj,g1,g2,g3⟩ := h
  have g2 : (X.H.set i (.list true ex e c l))[j]? = some cj := g2
  by_cases e' : i = j
  · subst e'
    by_cases hl : i < X.H.length
    · rw [List.getElem?_set_self hl] at g2; cases g2; cases g3
    · rw [List.getElem?_eq_none (by simp; omega)] at g2; cases g2
  · rw [List.getElem?_set_ne e'] at g2; exact ⟨j,cj,g1,g2,g3⟩
end Go.Sx

/-
  SX, PART H: lists in memory; loads; lists that stand among cells.
-/
namespace Go.Sx
open Go Go.Ev Go.RowKit
variable {U : Nat → Type} {T : Tab} {S : Sys U} {X : Env U}
theorem slice_some {ws cs : List Value} {o n : Nat} (h : Ev.slice ws o n = some cs) : cs = (ws.drop o).take n ∧ cs.length = n := by
  unfold Ev.slice at h
  simp only at h
  split at h
  · rename_i hl; cases h; exact ⟨rfl,hl⟩
  · cases h
theorem slice_of {ws : List Value} {o n : Nat} (h : o + n ≤ ws.length) : Ev.slice ws o n = some ((ws.drop o).take n) := by
  unfold Ev.slice
  simp only
  rw [if_pos (by simp; omega)]
theorem slice_lt {ws cs : List Value} {o n : Nat} (h : Ev.slice ws o n = some cs) (hn : n ≠ 0) : o + n ≤ ws.length := by
  obtain ⟨h1,h2⟩ := slice_some h
  rw [h1] at h2
  simp at h2; omega
theorem slice_slice {ws cs : List Value} {b m o n : Nat} (h : Ev.slice ws b m = some cs) (hn : o + n ≤ m) : Ev.slice ws (b + o) n = some ((cs.drop o).take n) := by
  obtain ⟨h1,h2⟩ := slice_some h
  have e : (cs.drop o).take n = (ws.drop (b + o)).take n := by
    rw [h1,List.drop_take,List.drop_drop,List.take_take,Nat.min_eq_left (by omega)]
  have hl : ((cs.drop o).take n).length = n := by rw [List.length_take,List.length_drop,h2]; omega
  unfold Ev.slice
  simp only
  rw [← e,if_pos hl]
theorem slice_all {ws : List Value} : Ev.slice ws 0 ws.length = some ws := by
  rw [slice_of (by omega)]; simp
theorem slice_one {ws cs : List Value} {b m o : Nat} (h : Ev.slice ws b m = some cs) (ho : o < m) : ws[b + o]? = cs[o]? := by
  obtain ⟨h1,h2⟩ := slice_some h
  rw [h1,List.getElem?_take,if_pos ho,List.getElem?_drop]
theorem chunks {ws : List Value} {o k m : Nat} {cs : Nat → List Value} (hk : 0 < k) (h : ∀ j,j < m → Ev.slice ws (o + j * k) k = some (cs j)) : ∃ flat,Ev.slice ws o (m * k) = some flat ∧ flat.length = m * k ∧ ∀ j,j < m → Ev.slice flat (j * k) k = some (cs j) := by
  by_cases hm : m = 0
  · subst hm
    exact ⟨[],by unfold Ev.slice; simp,by simp,fun j hj => by omega⟩
  · have h1 := slice_lt (h (m - 1) (by omega)) (by omega)
    have h2 : o + m * k ≤ ws.length := by
      have : (m - 1) * k + k = m * k := by rw [← Nat.succ_mul,Nat.succ_eq_add_one,Nat.sub_add_cancel (by omega)]
      omega
    refine ⟨_,slice_of h2,by simp; omega,fun j hj => ?_⟩
    have h3 := h j hj
    obtain ⟨h4,h5⟩ := slice_some h3
    have : j * k + k ≤ m * k := by rw [← Nat.succ_mul]; exact Nat.mul_le_mul_right k hj
    rw [slice_of (by simp; omega),h4,List.drop_take,List.drop_drop,List.take_take,Nat.min_eq_left (by omega)]
theorem one_den {v : SV U} {w : Value} (h : Den S X v w) (h1 : one v = true) : oneCell w = true := by
  cases h <;> first | rfl | cases h1
theorem ones_den : ∀ {l : List (SV U)} {vs : List Value},DenL S X l vs → (∀ v ∈ l,one v = true) → ∀ w ∈ vs,oneCell w = true
  | [],vs,h,_,w,hw => by cases h; cases hw
  | v :: l,vs,h,h1,w,hw => by
    obtain ⟨u,us,rfl,h2,h3⟩ := h.uncons
    rcases List.mem_cons.1 hw with rfl | hw
    · exact one_den h2 (h1 v List.mem_cons_self)
    · exact ones_den h3 (fun v hv => h1 v (List.mem_cons_of_mem _ hv)) w hw
theorem loadVar_sound (ok : SysOk T S) {t : TypeId} {vs : List (SV U)} {o : Nat} {K : SV U → Prop} (h : loadCells S t vs o K) {ws cs : List Value} {b m : Nat} (hs : Ev.slice ws b m = some cs) (hd : DenL S X vs cs) : ∃ sv v,K sv ∧ Den S X sv v ∧ ∀ (N e hi : Nat) (s : St),s.t.get N = some (.cells ws e hi) → Ev.loadVar T t N (b + o) s = some (v,s) := by
  unfold loadCells at h
  obtain ⟨hc,h⟩ := bif_true h
  obtain ⟨hc1,hc2⟩ := and_tt hc
  have hn := nbeq_nat hc1
  obtain ⟨g1,d,g2,g3⟩ := ok.size t hn
  have hm : cs.length = m := (slice_some hs).2
  have hle : o + S.size t ≤ m := by
    have := Nat.le_of_ble_eq_true hc2
    rw [lenL_eq,← hd.len,hm] at this; exact this
  cases ha : S.agg t with
  | true =>
    rw [ha] at h
    refine ⟨_,_,h,.agg ((hd.drop o).take (S.size t)) .nil,fun N e hi s hN => ?_⟩
    unfold Ev.loadVar
    simp only [bnd,rowOf,hN,g2,g3,ha,if_true,g1,slice_slice hs hle]; rfl
  | false =>
    rw [ha] at h
    obtain ⟨w,k1,k2⟩ := hd.nth o (by rw [← hd.len,hm]; omega)
    refine ⟨_,w,h,k2,fun N e hi s hN => ?_⟩
    unfold Ev.loadVar
    simp only [bnd,rowOf,hN,g2,g3,ha,Bool.false_eq_true,if_false,slice_one hs (show o < m by omega),k1]; rfl
theorem load_sound (ok : SysOk T S) (hr : HRel S X) {F : Frm U} {fr : Fr} (hF : FrmOk S X F fr.tmps) {o : Op} {K : SV U → Prop} (h : loadStep S F X.H o K) : ∃ sv v t a N p,K sv ∧ Den S X sv v ∧ o = .load t a ∧ fr.eval a = .pointer (some ⟨N,p,none⟩) ∧ N < X.n ∧ ((∃ i,evo F a = .ptr i p ∧ X.ns[i]? = some (some N)) ∨ (∃ i j o',evo F a = .olp i j o' ∧ X.ns[i]? = some (some N)) ∨ ∃ c x o',evo F a = .rp c x o') ∧ ∀ s : St,s.t.get N = X.t.get N → evPlain T fr.eval o s = some (v,s) := by
  unfold loadStep at h
  split at h
  · rename_i t a
    have ha := evo_den hF a
    split at h
    · rename_i i p he
      rw [he] at ha
      obtain ⟨N,hN,hw⟩ := ptr_inv ha
      split at h
      · rename_i fz e vs hc
        obtain ⟨M,ws,e1,e2,e3,e4,_⟩ := hr.ok i _ _ (conAt_get hc (by simp)) hN
        cases e1
        obtain ⟨sv,v,g1,g2,g3⟩ := loadVar_sound ok h (slice_all (ws := ws)) e3
        refine ⟨sv,v,t,a,N,p,g1,g2,rfl,hw,e4,.inl ⟨i,he,hN⟩,fun s hs => ?_⟩
        unfold evPlain
        simp only [hw,addr,bnd,ret]
        have := g3 N e 0 s (hs.trans e2)
        rw [Nat.zero_add] at this; exact this
      · exact h.elim
    · rename_i c x p he
      rw [he] at ha
      obtain ⟨N,b,ws,e,hi,cs,hw,q1,q2,q3,q4,q5⟩ := rp_inv ha
      obtain ⟨sv,v,g1,g2,g3⟩ := loadVar_sound ok h q4 q5
      refine ⟨sv,v,t,a,N,b + p,g1,g2,rfl,hw,q2,.inr (.inr ⟨c,x,p,he⟩),fun s hs => ?_⟩
      unfold evPlain
      simp only [hw,addr,bnd,ret]
      exact g3 N e hi s (hs.trans q1)
    · rename_i i j p he
      rw [he] at ha
      obtain ⟨N,q,hw,hq⟩ := olp_inv ha
      split at h
      · rename_i fz ex e c l hc
        have hc' := conAt_get hc (by simp)
        unfold olpDen at hq
        rw [hc'] at hq
        obtain ⟨hN,rfl⟩ := hq
        obtain ⟨_,ws,cs,e2,e3,e4,e5,e6,e7⟩ := hr.ok i _ _ hc' hN
        obtain ⟨hj,h⟩ := h
        have hj := hj.out
        have hy : l[j]? = some l[j] := List.getElem?_eq_getElem hj
        obtain ⟨sv,v,g1,g2,g3⟩ := loadVar_sound ok (h _ hy) (e4 _ _ hy) (e5 _ _ hy)
        refine ⟨sv,v,t,a,N,_,g1,g2,rfl,hw,e6,.inr (.inl ⟨i,j,p,he,hN⟩),fun s hs => ?_⟩
        unfold evPlain
        simp only [hw,addr,bnd,ret]
        exact g3 N e 0 s (hs.trans e2)
      · exact h.elim
    · exact h.elim
  · exact h.elim
theorem frz_den (hr : HRel S X) {i : Nat} {fz ex : Bool} {e c : Nat} {l : List (U c)} (hi : X.H[i]? = some (.list fz ex e c l)) {w : Value} (hw : Den S X (.ol i) w) : Den S ⟨X.wb,X.ns,X.H.set i (.list true ex e c l),X.t,X.n⟩ (.sl c l) w := by
  obtain ⟨hL,hr'⟩ := hr.frz hi
  have hilt := (List.getElem?_eq_some_iff.1 hi).1
  cases hw with
  | ol h0 _ =>
    unfold olDen at h0
    rw [hi] at h0
    obtain ⟨N,hN,hv⟩ := h0
    obtain ⟨h1,h2⟩ := hr'.ok i (.list true ex e c l) N (List.getElem?_set_self hilt) hN
    cases N with
    | none =>
      obtain ⟨hl,a,hv,ha⟩ := hv
      cases hv
      have : l = [] := List.length_eq_zero_iff.1 hl
      subst this
      exact DenL.sl (cs := fun _ => []) (ws := []) (N := 0) (o := 0) (e := 0) (hi := 0) ⟨by rcases ha with h | ⟨N,h⟩; exact .inl h; exact .inr ⟨N,0,h⟩,.inl ⟨Nat.le_refl _,by decide⟩⟩ (fun h => absurd rfl h) (fun j x h => by simp at h) (fun j x h => by simp at h) h1 .nil
    | some M =>
      obtain ⟨ws,cs,k1,k2,k3,k4,k5,k6⟩ := h2
      cases hv
      exact DenL.sl (o := 0) ⟨.inr ⟨M,0,rfl⟩,by cases ex; exact .inr (.inl rfl); exact .inl ⟨Nat.le_refl _,h1⟩⟩ (fun _ => ⟨rfl,k1,k5,k6 rfl⟩) (fun j x h => by rw [Nat.zero_add]; exact k3 j x h) k4 h1 .nil
theorem frz_oden (hr : HRel S X) {i lo n : Nat} {fz ex : Bool} {e c : Nat} {l : List (U c)} (hi : X.H[i]? = some (.list fz ex e c l)) {w : Value} (hw : Den S X (.osl i lo n) w) : Den S ⟨X.wb,X.ns,X.H.set i (.list true ex e c l),X.t,X.n⟩ (.sl c ((l.drop lo).take n)) w := by
  obtain ⟨hL,hr'⟩ := hr.frz hi
  have hilt := (List.getElem?_eq_some_iff.1 hi).1
  have h0 := osl_inv hw
  unfold oslDen at h0
  rw [hi] at h0
  obtain ⟨N,hN,hle,hv⟩ := h0
  obtain ⟨h1,h2⟩ := hr'.ok i (.list true ex e c l) N (List.getElem?_set_self hilt) hN
  cases N with
  | none =>
    obtain ⟨rfl,a,rfl,ha⟩ := hv
    obtain ⟨rfl,_⟩ := h2
    exact sl_part (M := 0) (o := 0) (ws := []) (e := 0) (hi := 0) (cs := fun _ => []) (fun h => absurd rfl h) (fun j x h => by simp at h) (fun j x h => by simp at h) h1 hle (fun h => absurd rfl h) (by rcases ha with h | ⟨N,h⟩; exact .inl h; exact .inr ⟨N,0,h⟩) (.inl ⟨Nat.le_refl _,by decide⟩)
  | some M =>
    obtain ⟨ws,cs,k1,k2,k3,k4,k5,k6⟩ := h2
    subst hv
    exact sl_part (o := 0) (fun _ => ⟨k1,k5,k6 rfl⟩) (fun j x h => by rw [Nat.zero_add]; exact k3 j x h) k4 h1 hle (fun _ => by rw [Nat.zero_add]) (.inr ⟨M,_,rfl⟩) (by
      cases ex
      · exact .inr (.inl rfl)
      · exact .inl ⟨by simp; omega,by simp; omega⟩)
theorem resL_sound : ∀ {l : List (SV U)} {X : Env U} {vs : List Value} {K : List (SV U) → Hp U → Prop},HRel S X → resL X.H l K → DenL S X l vs → ∃ l' H',K l' H' ∧ DenL S ⟨X.wb,X.ns,H',X.t,X.n⟩ l' vs ∧ Later X ⟨X.wb,X.ns,H',X.t,X.n⟩ ∧ HRel S ⟨X.wb,X.ns,H',X.t,X.n⟩ ∧ ∀ N,Env.liveN ⟨X.wb,X.ns,H',X.t,X.n⟩ N → X.liveN N
  | [],X,vs,K,hr,h,hd => ⟨[],X.H,h,hd,Later.refl X,hr,fun _ h => h⟩
  | v :: l,X,vs,K,hr,h,hd => by
    obtain ⟨w,ws,rfl,h1,h2⟩ := hd.uncons
    unfold resL at h
    obtain ⟨l',H',g1,g2,g3,g4,g5⟩ := resL_sound hr h h2
    have h1' := DenL.later g3 h1
    split at g1
    · rename_i i
      split at g1
      · rename_i fz ex e c d hc
        have hc' := conAt_get hc (by simp)
        obtain ⟨k1,k2⟩ := HRel.frz g4 hc'
        refine ⟨_,_,g1,?_,g3.trans (by rw [setC_eq]; exact k1),by rw [setC_eq]; exact k2,fun N hN => g5 N ?_⟩
        · rw [setC_eq]; exact DenL.cons (frz_den g4 hc' h1') (g2.later k1)
        · rw [setC_eq] at hN; exact Later.liveN_frz (X := ⟨X.wb,X.ns,H',X.t,X.n⟩) hN
      · exact g1.elim
    · rename_i i lo n
      split at g1
      · rename_i fz ex e c d hc
        have hc' := conAt_get hc (by simp)
        obtain ⟨k1,k2⟩ := HRel.frz g4 hc'
        refine ⟨_,_,g1,?_,g3.trans (by rw [setC_eq]; exact k1),by rw [setC_eq]; exact k2,fun N hN => g5 N ?_⟩
        · rw [setC_eq]; exact DenL.cons (frz_oden g4 hc' h1') (g2.later k1)
        · rw [setC_eq] at hN; exact Later.liveN_frz (X := ⟨X.wb,X.ns,H',X.t,X.n⟩) hN
      · exact g1.elim
    · exact ⟨_,_,g1,DenL.cons h1' g2,g3,g4,g5⟩
end Go.Sx
