/-
  SX, PART T: what is known of the types, by a table that the kernel looks through.
-/
import Derived.Test.YtelpkdjibjddlaaEvSxX
set_option linter.unusedSimpArgs false
set_option linter.unusedVariables false
namespace Go.Sx
open Go Go.Ev Go.RowKit
variable {U : Nat → Type}
inductive Z where
  | i (k : IntKind) | b | s | p | sl | f | n | m
def Z.sv : Z → SV U
  | .i k => .int k 0 | .b => .bool false | .s => .str [] | .p => .nilP | .sl => .nilS | .f => .nilF | .n => .nilI | .m => .nilM
def Z.okV : Z → Value → Bool
  | .i k,.int k' x => decide (k = k') && decide (x = 0)
  | .b,.bool q => !q
  | .s,.string q => q.data.toList.isEmpty
  | .p,.pointer none => true
  | .sl,.slice none 0 0 => true
  | .f,.nilFunc => true
  | .n,.nilIface => true
  | .m,.map none => true
  | _,_ => false
def Z.okL : List Z → List Value → Bool
  | [],[] => true
  | z :: zs,v :: vs => z.okV v && okL zs vs
  | _,_ => false
structure TI where
  td : TD
  size : Nat
  agg : Bool
  bytes : Nat
  ty : Nat
  zero : List Z
  cmp : Bool
  eqs : Bool
def TI.no : TI := ⟨.none,0,false,0,0,[],false,false⟩
def lookT : List (Nat × TI) → Nat → TI
  | [],_ => .no
  | (t,i) :: l,n => bif Nat.beq n t then i else lookT l n
def mapZ : List Z → List (SV U)
  | [] => []
  | z :: l => z.sv :: mapZ l
def mkSys (tab : List (Nat × TI)) (k : Nat → Nat) (cells : (c : Nat) → U c → List (SV U)) (of : (c : Nat) → List (SV U) → Option (U c)) : Sys U where
  td t := (lookT tab t).td
  size t := (lookT tab t).size
  agg t := (lookT tab t).agg
  ty t := (lookT tab t).ty
  bytes t := (lookT tab t).bytes
  k := k
  cells := cells
  of := of
  zero t := mapZ (lookT tab t).zero
  cmp t := (lookT tab t).cmp
  eqs t := (lookT tab t).eqs
def aggOk (o : Option TypeDesc) (a : Bool) : Bool := match o with
  | some d => isAggD d == a
  | none => false
def okFs (T : Tab) (tab : List (Nat × TI)) : List (Nat × Nat × TypeId) → List Field → Bool
  | [],[] => true
  | (o,n,u) :: fs,f :: gs => decide (f.offset = o) && decide (f.type = u) && decide (T.size u = some n) && aggOk (T.und u) (lookT tab u).agg && okFs T tab fs gs
  | _,_ => false
def okTD (T : Tab) (tab : List (Nat × TI)) (t : TypeId) : TD → Bool
  | .int k => (match T.und t with | some (.int k') => decide (k' = k) | _ => false)
  | .bool => (match T.und t with | some .bool => true | _ => false)
  | .str => (match T.und t with | some .string => true | _ => false)
  | .ptr e => (match T.und t with | some (.pointer e') => decide (e' = e) | _ => false)
  | .slice e => (match T.und t with | some (.slice e') => decide (e' = e) | _ => false)
  | .struct fs => (match T.und t with | some (.struct gs) => okFs T tab fs gs.toList | _ => false)
  | .arr n e => (match T.und t with | some (.array n' e') => decide (n' = n) && decide (e' = e) | _ => false)
  | .iface => (match T.und t with | some (.interface _) => true | _ => false)
  | .func => (match T.und t with | some (.func _ _ _) => true | _ => false)
  | .map k e => (match T.und t with | some (.map k' e') => decide (k' = k) && decide (e' = e) | _ => false)
  | .none => true
def okTI (T : Tab) (tab : List (Nat × TI)) (t : TypeId) (i : TI) : Bool :=
  okTD T tab t i.td && (decide (i.size = 0) || (decide (T.size t = some i.size) && aggOk (T.und t) i.agg)) && (decide (i.bytes = 0) || decide (T.bytes t = some i.bytes)) &&
  (i.zero.isEmpty || (match T.zero t with | some z => Z.okL i.zero (cellsOf z) | none => false)) && (!i.cmp || (T.cmp t && (match T.und t with | some (.int _) => true | _ => false))) && (!i.eqs || (T.eqOk t && (match T.und t with | some (.struct gs) => gs.toList.all (fun g => g.name != "_") | _ => false))) && decide (i.size < 1000000)
def okTab (T : Tab) (tab : List (Nat × TI)) : Bool := tab.all fun p => okTI T tab p.1 p.2
variable {T : Tab} {tab : List (Nat × TI)}
theorem lookT_ok (h : okTab T tab = true) (t : TypeId) : okTI T tab t (lookT tab t) = true ∨ lookT tab t = .no := by
  have key : ∀ l : List (Nat × TI),(∀ p ∈ l,okTI T tab p.1 p.2 = true) → okTI T tab t (lookT l t) = true ∨ lookT l t = .no := by
    intro l
    induction l with
    | nil => exact fun _ => .inr rfl
    | cons p l ih =>
      intro h
      obtain ⟨q,i⟩ := p
      unfold lookT
      cases hb : Nat.beq t q with
      | true => have := beq_nat hb; subst this; exact .inl (h _ List.mem_cons_self)
      | false => exact ih fun p hp => h p (List.mem_cons_of_mem _ hp)
  exact key tab (List.all_eq_true.1 h)
theorem zval {S : Sys U} {X : Env U} {z : Z} {v : Value} (h : z.okV v = true) : Den S X z.sv v := by
  unfold Z.okV at h
  split at h
  · simp at h; obtain ⟨rfl,rfl⟩ := h; exact .int .nil
  · rename_i b; cases b with
    | true => cases h
    | false => exact .bool .nil
  · rename_i s
    have : s.data.toList = [] := List.isEmpty_iff.1 h
    obtain ⟨⟨l⟩⟩ := s
    have : l = [] := this
    subst this
    exact .str .nil
  · exact .nilP .nil
  · exact .nilS .nil
  · exact .nilF .nil
  · exact .nilI .nil
  · exact .nilM .nil
  · cases h
theorem zvals {S : Sys U} {X : Env U} : ∀ {zs : List Z} {vs : List Value},Z.okL zs vs = true → DenL S X (mapZ zs) vs
  | [],[],_ => .nil
  | z :: zs,v :: vs,h => by
    obtain ⟨h1,h2⟩ := and_tt h
    exact DenL.cons (zval h1) (zvals h2)
  | [],_ :: _,h => by cases h
  | _ :: _,[],h => by cases h
theorem aggOk_ex {o : Option TypeDesc} {a : Bool} (h : aggOk o a = true) : ∃ d,o = some d ∧ isAggD d = a := by
  unfold aggOk at h
  split at h
  · exact ⟨_,rfl,by simpa using h⟩
  · cases h
theorem okFs_struct {k : Nat → Nat} {cells : (c : Nat) → U c → List (SV U)} {of : (c : Nat) → List (SV U) → Option (U c)} : ∀ {fs : List (Nat × Nat × TypeId)} {gs : List Field},okFs T tab fs gs = true → StructOk T (mkSys tab k cells of) fs gs
  | [],[],_ => trivial
  | (o,n,u) :: fs,f :: gs,h => by
    unfold okFs at h
    obtain ⟨h,h5⟩ := and_tt h
    obtain ⟨h,h4⟩ := and_tt h
    obtain ⟨h,h3⟩ := and_tt h
    obtain ⟨h1,h2⟩ := and_tt h
    exact ⟨of_decide_eq_true h1,of_decide_eq_true h2,of_decide_eq_true h3,aggOk_ex h4,okFs_struct h5⟩
  | [],_ :: _,h => by cases h
  | _ :: _,[],h => by cases h
theorem mkSys_ok {k : Nat → Nat} {cells : (c : Nat) → U c → List (SV U)} {of : (c : Nat) → List (SV U) → Option (U c)} (h : okTab T tab = true) (h1 : ∀ c x,(cells c x).length = k c ∧ ∀ v ∈ cells c x,one v = true) (h2 : ∀ c x,∀ v ∈ cells c x,idf v = true)
    (h3 : ∀ c l x,of c l = some x → ∀ X vs,DenL (mkSys tab k cells of) X l vs → DenL (mkSys tab k cells of) X (cells c x) vs) : SysOk T (mkSys tab k cells of) ∧ ∀ e,(mkSys tab k cells of).size e < END := by
  have td : ∀ t,okTD T tab t (lookT tab t).td = true := fun t => by
    rcases lookT_ok h t with h | h
    · unfold okTI at h
      obtain ⟨h,_⟩ := and_tt h
      obtain ⟨h,_⟩ := and_tt h
      obtain ⟨h,_⟩ := and_tt h
      obtain ⟨h,_⟩ := and_tt h
      obtain ⟨h,_⟩ := and_tt h
      exact (and_tt h).1
    · rw [h]; rfl
  have parts : ∀ t,(lookT tab t).size = 0 ∨ ((T.size t = some (lookT tab t).size) ∧ aggOk (T.und t) (lookT tab t).agg = true) := fun t => by
    rcases lookT_ok h t with h | h
    · unfold okTI at h
      obtain ⟨h,_⟩ := and_tt h
      obtain ⟨h,_⟩ := and_tt h
      obtain ⟨h,_⟩ := and_tt h
      obtain ⟨h,_⟩ := and_tt h
      obtain ⟨h,_⟩ := and_tt h
      have := (and_tt h).2
      rw [Bool.or_eq_true] at this
      rcases this with h | h
      · exact .inl (of_decide_eq_true h)
      · exact .inr ⟨of_decide_eq_true (and_tt h).1,(and_tt h).2⟩
    · rw [h]; exact .inl rfl
  refine ⟨⟨fun t e => ?_,fun t k e => ?_,fun t k e => ?_,fun t k e => ?_,fun t e => ?_,fun t e => ?_,fun t e => ?_,fun t fs e => ?_,fun t n k e => ?_,fun t n1 n2 => ?_,fun t hs => ?_,fun t hb => ?_,fun t hz => ?_,fun t hc => ?_,fun t gs hq hu => ?_,h1,h2,h3⟩,fun e => ?_⟩
  · have := td t; have e : (lookT tab t).td = .str := e; rw [e] at this; simp only [okTD] at this; split at this
    · assumption
    · cases this
  · have := td t; have e : (lookT tab t).td = .int k := e; rw [e] at this; simp only [okTD] at this; split at this
    · rename_i hu; rw [hu,of_decide_eq_true this]
    · cases this
  · have := td t; have e : (lookT tab t).td = .slice k := e; rw [e] at this; simp only [okTD] at this; split at this
    · rename_i hu; rw [hu,of_decide_eq_true this]
    · cases this
  · have := td t; have e : (lookT tab t).td = .ptr k := e; rw [e] at this; simp only [okTD] at this; split at this
    · rename_i hu; rw [hu,of_decide_eq_true this]
    · cases this
  · have := td t; have e : (lookT tab t).td = .bool := e; rw [e] at this; simp only [okTD] at this; split at this
    · assumption
    · cases this
  · have := td t; have e : (lookT tab t).td = .iface := e; rw [e] at this; simp only [okTD] at this; split at this
    · rename_i hu; exact ⟨_,hu⟩
    · cases this
  · have := td t; have e : (lookT tab t).td = .func := e; rw [e] at this; simp only [okTD] at this; split at this
    · rename_i hu; exact ⟨_,_,_,hu⟩
    · cases this
  · have := td t; have e : (lookT tab t).td = .struct fs := e; rw [e] at this; simp only [okTD] at this; split at this
    · rename_i hu; exact ⟨_,hu,okFs_struct this⟩
    · cases this
  · have := td t; have e : (lookT tab t).td = .arr n k := e; rw [e] at this; simp only [okTD] at this; split at this
    · rename_i hu; obtain ⟨g1,g2⟩ := and_tt this; rw [hu,of_decide_eq_true g1,of_decide_eq_true g2]
    · cases this
  · have := td t
    have n1 : (lookT tab t).td ≠ .none := n1
    have n2 : (lookT tab t).td ≠ .iface := n2
    cases hd : (lookT tab t).td <;> rw [hd] at this n1 n2 <;> first | exact absurd rfl n1 | exact absurd rfl n2 | skip
    all_goals
      simp only [okTD] at this
      split at this
      · rename_i hu; exact ⟨_,hu,fun m hm => by cases hm⟩
      · cases this
  · rcases parts t with h | ⟨h,h'⟩
    · exact absurd h hs
    · exact ⟨h,aggOk_ex h'⟩
  · rcases lookT_ok h t with h | h
    · unfold okTI at h
      obtain ⟨h,_⟩ := and_tt h
      obtain ⟨h,_⟩ := and_tt h
      obtain ⟨h,_⟩ := and_tt h
      obtain ⟨h,_⟩ := and_tt h
      have := (and_tt h).2
      rw [Bool.or_eq_true] at this
      rcases this with h | h
      · exact absurd (of_decide_eq_true h) hb
      · exact of_decide_eq_true h
    · exact absurd (by show (lookT tab t).bytes = 0; rw [h]; rfl) hb
  · have hz : mapZ (U := U) (lookT tab t).zero ≠ [] := hz
    rcases lookT_ok h t with h | h
    · unfold okTI at h
      obtain ⟨h,_⟩ := and_tt h
      obtain ⟨h,_⟩ := and_tt h
      obtain ⟨h,_⟩ := and_tt h
      have := (and_tt h).2
      rw [Bool.or_eq_true] at this
      rcases this with h | h
      · exact absurd (by rw [List.isEmpty_iff.1 h]; rfl) hz
      · split at h
        · rename_i z hu; exact ⟨z,hu,fun X => zvals h⟩
        · cases h
    · exact absurd (by rw [h]; rfl) hz
  · rcases lookT_ok h t with h | h
    · unfold okTI at h
      obtain ⟨h,_⟩ := and_tt h
      obtain ⟨h,_⟩ := and_tt h
      have := (and_tt h).2
      have hc : (lookT tab t).cmp = true := hc
      rw [hc] at this
      obtain ⟨g1,g2⟩ := and_tt (show (T.cmp t && _) = true from this)
      refine ⟨g1,?_⟩
      split at g2
      · rename_i hu; exact ⟨_,hu⟩
      · cases g2
    · have hc : (lookT tab t).cmp = true := hc
      rw [h] at hc; cases hc
  · have hq : (lookT tab t).eqs = true := hq
    rcases lookT_ok h t with h | h
    · unfold okTI at h
      obtain ⟨h,_⟩ := and_tt h
      have := (and_tt h).2
      rw [hq] at this
      obtain ⟨g1,g2⟩ := and_tt (show (T.eqOk t && _) = true from this)
      refine ⟨g1,fun g hg => ?_⟩
      rw [hu] at g2
      have := List.all_eq_true.1 g2 g hg
      simpa using this
    · rw [h] at hq; cases hq
  · show (lookT tab e).size < END
    have hE : 1000000 < END := by decide
    rcases lookT_ok h e with h | h
    · unfold okTI at h
      have := of_decide_eq_true (and_tt h).2
      omega
    · rw [h]; exact Nat.lt_trans (by decide) hE
end Go.Sx

/-
  SX, PART V: a contract over a few entries holds in any heap (lift).
-/
namespace Go.Sx
open Go Go.Ev Go.RowKit
variable {U : Nat → Type} {T : Tab} {S : Sys U}
theorem ren_relW (ok : SysOk T S) {X : Env U} {σ : Ren} {H0 : Hp U} (hlen : X.ns.length = X.H.length) (hok : ∀ (i : Nat) c N,X.H[i]? = some c → X.ns[i]? = some N → ConOk S X N c) (hin : ∀ (i j N : Nat),X.ns[i]? = some (some N) → X.ns[j]? = some (some N) → i = j) (hlt : ∀ (i N : Nat),i < H0.length → X.ns[Sx.ren σ i]? = some (some N) → N < X.n ∧ ¬ X.wb N) (hwbl : ∀ N,X.wb N → N < X.n) (he : eqH H0.length σ X.H 0 H0) (hinj : ∀ i j,i < H0.length → j < H0.length → Sx.ren σ i = Sx.ren σ j → i = j) : HRel S (X.ren σ H0) := by
  have hfb : ∀ {N},(X.ren σ H0).fb N → X.fb N := fun h => ren_fb he h
  refine ⟨by show (nsR σ X.ns H0.length).length = H0.length; simp [nsR],fun i c N h1 h2 => ?_,fun i j N h1 h2 => ?_,fun i N h => ?_,hwbl⟩
  · have h1 : H0[i]? = some c := h1
    have hi : i < H0.length := (List.getElem?_eq_some_iff.1 h1).1
    have h5 := eqH_at he h1
    rw [Nat.zero_add] at h5
    have h2 : (nsR σ X.ns H0.length)[i]? = some N := h2
    rw [nsR_get hi] at h2
    cases c with
    | dead => trivial
    | loop r st pd =>
      cases hcon : conAt X.H (Sx.ren σ i) with
      | loop r' st' pd' =>
        rw [hcon] at h5
        obtain ⟨h6,h7,h8⟩ := h5
        subst h6; subst h7; subst h8
        have hg := conAt_get hcon (by simp)
        have hl : Sx.ren σ i < X.ns.length := by rw [hlen]; exact (List.getElem?_eq_some_iff.1 hg).1
        have hn : X.ns[Sx.ren σ i]? = some X.ns[Sx.ren σ i] := List.getElem?_eq_getElem hl
        rw [hn] at h2
        cases h2
        exact hok _ _ _ hg hn
      | _ => rw [hcon] at h5; exact h5.elim
    | siter x p =>
      cases hcon : conAt X.H (Sx.ren σ i) with
      | siter x' p' =>
        rw [hcon] at h5
        obtain ⟨h6,h7⟩ := h5
        subst h6; subst h7
        have hg := conAt_get hcon (by simp)
        have hl : Sx.ren σ i < X.ns.length := by rw [hlen]; exact (List.getElem?_eq_some_iff.1 hg).1
        have hn : X.ns[Sx.ren σ i]? = some X.ns[Sx.ren σ i] := List.getElem?_eq_getElem hl
        rw [hn] at h2
        cases h2
        exact hok _ _ _ hg hn
      | _ => rw [hcon] at h5; exact h5.elim
    | cells fz e vs =>
      cases hcon : conAt X.H (Sx.ren σ i) with
      | cells fz' e' ws =>
        rw [hcon] at h5
        obtain ⟨h6,h7,h8⟩ := bif_true h5
        have := beq_nat h6; subst this; subst h7
        have hg := conAt_get hcon (by simp)
        have hl : Sx.ren σ i < X.ns.length := by rw [hlen]; exact (List.getElem?_eq_some_iff.1 hg).1
        have hn : X.ns[Sx.ren σ i]? = some X.ns[Sx.ren σ i] := List.getElem?_eq_getElem hl
        rw [hn] at h2
        cases h2
        obtain ⟨M,us,k1,k2,k3,k4,k5⟩ := hok _ _ _ hg hn
        exact ⟨M,us,k1,k2,eqL_den (fun _ _ _ h d => eq3_den ok he h d) h8 k3,k4,fun hf hb => k5 hf (hfb hb)⟩
      | _ => rw [hcon] at h5; exact h5.elim
    | list fz ex e k l =>
      cases hcon : conAt X.H (Sx.ren σ i) with
      | list fz' ex' e' k' l' =>
        rw [hcon] at h5
        obtain ⟨h6,h7,h8,h9⟩ := bif_true h5
        have := beq_nat h6; subst this; subst h7; subst h8
        obtain ⟨ek,h9⟩ := castL_ex h9
        subst ek; subst h9
        have hg := conAt_get hcon (by simp)
        have hl : Sx.ren σ i < X.ns.length := by rw [hlen]; exact (List.getElem?_eq_some_iff.1 hg).1
        have hn : X.ns[Sx.ren σ i]? = some X.ns[Sx.ren σ i] := List.getElem?_eq_getElem hl
        rw [hn] at h2
        cases h2
        have hok := hok _ _ _ hg hn
        refine ⟨hok.1,?_⟩
        cases hN : X.ns[Sx.ren σ i] with
        | none => rw [hN] at hok; exact hok.2
        | some M =>
          rw [hN] at hok
          obtain ⟨_,us,cs,k1,k2,k3,k4,k5,k6⟩ := hok
          exact ⟨us,cs,k1,k2,k3,fun j x hx => idf_move (X := X) (Y := X.ren σ H0) ok rfl rfl (fun _ h => hfb h) (k4 j x hx) (ok.idf _ _),k5,fun hf hb => k6 hf (hfb hb)⟩
      | _ => rw [hcon] at h5; exact h5.elim
  · obtain ⟨hi,g1⟩ := nsR_some h1
    obtain ⟨hj,g2⟩ := nsR_some h2
    exact hinj i j hi hj (hin _ _ _ g1 g2)
  · obtain ⟨hi,g1⟩ := nsR_some h
    exact hlt _ _ hi g1
def idx : List Nat → Nat → Nat → Option Nat
  | [],_,_ => none
  | j :: js,i,k => bif Nat.beq j k then some i else idx js (Nat.succ i) k
def toRen : List Nat → Nat → Ren
  | [],_ => []
  | j :: js,i => (i,j) :: toRen js (Nat.succ i)
def nodupB : List Nat → Bool
  | [] => true
  | j :: js => !memN js j && nodupB js
theorem ren_toRen : ∀ {js : List Nat} {i k : Nat} {j : Nat},js[k]? = some j → ren (toRen js i) (i + k) = j
  | [],i,k,j,h => by simp at h
  | a :: js,i,0,j,h => by
    simp at h; subst h
    unfold toRen ren
    rw [show Nat.beq i (i + 0) = true from Nat.beq_refl i]; rfl
  | a :: js,i,k + 1,j,h => by
    unfold toRen ren
    have : Nat.beq i (i + (k + 1)) = false := by
      cases hb : Nat.beq i (i + (k + 1)) with
      | true => have := beq_nat hb; omega
      | false => rfl
    rw [this]
    have := ren_toRen (js := js) (i := Nat.succ i) (k := k) (j := j) (by simpa using h)
    rw [show i + (k + 1) = Nat.succ i + k by omega]; exact this
theorem idx_some : ∀ {js : List Nat} {i k a : Nat},idx js i k = some a → ∃ b,a = i + b ∧ js[b]? = some k
  | [],i,k,a,h => by cases h
  | j :: js,i,k,a,h => by
    unfold idx at h
    cases hb : Nat.beq j k with
    | true => rw [hb] at h; cases h; have := beq_nat hb; subst this; exact ⟨0,rfl,rfl⟩
    | false =>
      rw [hb] at h
      obtain ⟨b,h1,h2⟩ := idx_some h
      exact ⟨b + 1,by omega,by simpa using h2⟩
theorem idx_of : ∀ {js : List Nat} {i b k : Nat},nodupB js = true → js[b]? = some k → idx js i k = some (i + b)
  | [],i,b,k,_,h => by simp at h
  | j :: js,i,0,k,_,h => by
    simp at h; subst h
    unfold idx; rw [Nat.beq_refl]; rfl
  | j :: js,i,b + 1,k,hn,h => by
    unfold nodupB at hn
    obtain ⟨h1,h2⟩ := and_tt hn
    have h : js[b]? = some k := by simpa using h
    unfold idx
    cases hb : Nat.beq j k with
    | true =>
      have := beq_nat hb; subst this
      rw [(memN_iff js _).2 (List.mem_of_getElem? h)] at h1; cases h1
    | false => rw [show i + (b + 1) = Nat.succ i + b by omega]; exact idx_of (i := Nat.succ i) h2 h
theorem nodup_inj {js : List Nat} (h : nodupB js = true) {a b k : Nat} (ha : js[a]? = some k) (hb : js[b]? = some k) : a = b := by
  have h1 := idx_of (i := 0) h ha
  have h2 := idx_of (i := 0) h hb
  rw [h1,Option.some.injEq] at h2; omega
def optV (o : Option Nat) (f : Nat → SV U) : SV U := match o with
  | some a => f a
  | none => .undef
def down1 (js : List Nat) (v : SV U) : SV U := match v with
  | .ptr i o => optV (idx js 0 i) fun a => .ptr a o
  | .ol i => optV (idx js 0 i) fun a => .ol a
  | .osl i b n => optV (idx js 0 i) fun a => .osl a b n
  | .olp i j o => optV (idx js 0 i) fun a => .olp a j o
  | .agg _ | .tup _ | .func _ _ _ | .yld _ | .iface _ _ => .undef
  | v => v
def down2 (js : List Nat) (v : SV U) : SV U := match v with
  | .agg l => .agg (l.map (down1 js))
  | .tup l => .tup (l.map (down1 js))
  | .func f a c => .func f (a.map (down1 js)) (c.map (down1 js))
  | .iface t x => .iface t (down1 js x)
  | v => down1 js v
def down3 (js : List Nat) (v : SV U) : SV U := match v with
  | .agg l => .agg (l.map (down2 js))
  | .tup l => .tup (l.map (down2 js))
  | .func f a c => .func f (a.map (down2 js)) (c.map (down2 js))
  | .iface t x => .iface t (down2 js x)
  | v => down1 js v
def downC (js : List Nat) : Con U → Con U
  | .cells fz e vs => .cells fz e (vs.map (down3 js))
  | c => c
theorem eq1_optV {n0 : Nat} {σ : Ren} {o : Option Nat} {f : Nat → SV U} {v : SV U} (h : ∀ a,o = some a → eq1 n0 σ (f a) v) : eq1 n0 σ (optV o f) v := by
  cases o with
  | none => unfold optV eq1; split <;> trivial
  | some a => exact h a rfl
theorem blt_true {a b : Nat} (h : a < b) : Nat.blt a b = true := Nat.ble_eq_true_of_le h
theorem eq1_down (js : List Nat) (v : SV U) : eq1 js.length (toRen js 0) (down1 js v) v := by
  have key : ∀ {i a},idx js 0 i = some a → Nat.beq (ren (toRen js 0) a) i = true ∧ Nat.blt a js.length = true := by
    intro i a h
    obtain ⟨b,h1,h2⟩ := idx_some h
    have h3 := ren_toRen (i := 0) h2
    rw [Nat.zero_add] at h1 h3
    subst h1
    rw [h3]
    exact ⟨Nat.beq_refl _,blt_true (List.getElem?_eq_some_iff.1 h2).1⟩
  cases v with
  | ptr i o => exact eq1_optV fun a h => by unfold eq1; obtain ⟨h1,h2⟩ := key h; simp only [h1,h2,Nat.beq_refl,Bool.and_self,cond_true]
  | ol i => exact eq1_optV fun a h => by unfold eq1; obtain ⟨h1,h2⟩ := key h; simp only [h1,h2,Bool.and_self,cond_true]
  | osl i b n => exact eq1_optV fun a h => by unfold eq1; obtain ⟨h1,h2⟩ := key h; simp only [h1,h2,Bool.and_self,cond_true,and_self]
  | olp i j o => exact eq1_optV fun a h => by unfold eq1; obtain ⟨h1,h2⟩ := key h; simp only [h1,h2,Nat.beq_refl,Bool.and_self,cond_true]
  | int k x => unfold down1 eq1; simp only [Nat.beq_refl,cond_true]
  | sl c l => unfold down1 eq1; exact castL_same rfl
  | rp c x o => unfold down1 eq1; simp only [Nat.beq_refl,cond_true]; exact castL_same rfl
  | _ => first | exact trivial | rfl
theorem eqL_map {R : SV U → SV U → Prop} {g : SV U → SV U} (h : ∀ v,R (g v) v) : ∀ l,eqL R (l.map g) l
  | [] => trivial
  | v :: l => ⟨h v,eqL_map h l⟩
theorem eq2_of1 {n0 : Nat} {σ : Ren} {v0 v : SV U} (h : eq1 n0 σ v0 v) : eq2 n0 σ v0 v := by
  unfold eq2
  split <;> first | exact h | (unfold eq1 at h; split at h <;> simp_all)
theorem eq3_of1 {n0 : Nat} {σ : Ren} {v0 v : SV U} (h : eq1 n0 σ v0 v) : eq3 n0 σ v0 v := by
  unfold eq3
  split <;> first | exact h | (unfold eq1 at h; split at h <;> simp_all)
theorem eq2_down (js : List Nat) (v : SV U) : eq2 js.length (toRen js 0) (down2 js v) v := by
  cases v with
  | agg l => exact eqL_map (eq1_down js) l
  | tup l => exact eqL_map (eq1_down js) l
  | func f a c => unfold down2 eq2; simp only [Nat.beq_refl,cond_true]; exact ⟨eqL_map (eq1_down js) a,eqL_map (eq1_down js) c⟩
  | iface t x => unfold down2 eq2; simp only [Nat.beq_refl,cond_true]; exact eq1_down js x
  | _ => refine eq2_of1 ?_; unfold down2; exact eq1_down js _
theorem eq3_down (js : List Nat) (v : SV U) : eq3 js.length (toRen js 0) (down3 js v) v := by
  cases v with
  | agg l => exact eqL_map (eq2_down js) l
  | tup l => exact eqL_map (eq2_down js) l
  | func f a c => unfold down3 eq3; simp only [Nat.beq_refl,cond_true]; exact ⟨eqL_map (eq2_down js) a,eqL_map (eq2_down js) c⟩
  | iface t x => unfold down3 eq3; simp only [Nat.beq_refl,cond_true]; exact eq2_down js x
  | _ => refine eq3_of1 ?_; unfold down3; exact eq1_down js _
theorem eqC_down (js : List Nat) (c : Con U) : eqC js.length (toRen js 0) (downC js c) c := by
  cases c with
  | cells fz e vs => unfold downC eqC; simp only [Nat.beq_refl,cond_true]; exact ⟨trivial,eqL_map (eq3_down js) vs⟩
  | list fz ex e c l => unfold downC eqC; simp only [Nat.beq_refl,cond_true]; exact ⟨trivial,trivial,castL_same rfl⟩
  | loop r st pd => exact ⟨rfl,rfl,rfl⟩
  | siter x p => exact ⟨rfl,rfl⟩
  | dead => trivial
def locH (H : Hp U) (js : List Nat) : Hp U := js.map fun j => downC js (conAt H j)
theorem eqH_of {n0 : Nat} {σ : Ren} {H : Hp U} : ∀ {H0 : Hp U} {i : Nat},(∀ k c,H0[k]? = some c → eqC n0 σ c (conAt H (ren σ (i + k)))) → eqH n0 σ H i H0
  | [],i,_ => trivial
  | c :: H0,i,h => ⟨h 0 c rfl,eqH_of (H0 := H0) (i := Nat.succ i) fun k c' hk => by
      have := h (k + 1) c' (by simpa using hk)
      rw [show i + (k + 1) = Nat.succ i + k by omega] at this; exact this⟩
theorem eqH_loc (H : Hp U) (js : List Nat) : eqH (locH H js).length (toRen js 0) H 0 (locH H js) := by
  have hl : (locH H js).length = js.length := by simp [locH]
  rw [hl]
  refine eqH_of fun k c hk => ?_
  unfold locH at hk
  rw [List.getElem?_map] at hk
  cases hj : js[k]? with
  | none => rw [hj] at hk; cases hk
  | some j =>
    rw [hj] at hk; cases hk
    rw [ren_toRen (i := 0) hj]
    exact eqC_down js _
def up1 (H1 : Hp U) (m : Nat) (τ : Nat → Nat) (v : SV U) : SV U := match v with
  | .ptr i o => bif Nat.blt i m || (conAt H1 i).live then .ptr (τ i) o else .undef
  | .ol i => .ol (τ i)
  | .osl i b n => .osl (τ i) b n
  | .olp i j o => .olp (τ i) j o
  | .agg _ | .tup _ | .func _ _ _ | .yld _ | .iface _ _ => .undef
  | v => v
def up2 (H1 : Hp U) (m : Nat) (τ : Nat → Nat) (v : SV U) : SV U := match v with
  | .agg l => .agg (l.map (up1 H1 m τ))
  | .tup l => .tup (l.map (up1 H1 m τ))
  | .func f a c => .func f (a.map (up1 H1 m τ)) (c.map (up1 H1 m τ))
  | .iface t x => .iface t (up1 H1 m τ x)
  | v => up1 H1 m τ v
def up3 (H1 : Hp U) (m : Nat) (τ : Nat → Nat) (v : SV U) : SV U := match v with
  | .agg l => .agg (l.map (up2 H1 m τ))
  | .tup l => .tup (l.map (up2 H1 m τ))
  | .func f a c => .func f (a.map (up2 H1 m τ)) (c.map (up2 H1 m τ))
  | .iface t x => .iface t (up2 H1 m τ x)
  | v => up1 H1 m τ v
def upC (H1 : Hp U) (m : Nat) (τ : Nat → Nat) : Con U → Con U
  | .cells fz e vs => .cells fz e (vs.map (up3 H1 m τ))
  | c => c
structure Up (X X' : Env U) (m : Nat) (τ : Nat → Nat) : Prop where
  H : ∀ (i : Nat) c,X.H[i]? = some c → i < m ∨ c.live = true → X'.H[τ i]? = some (upC X.H m τ c)
  D : ∀ (i : Nat) c,X.H[i]? = some c → ¬ (i < m ∨ c.live = true) → X'.H[τ i]? = some .dead
  ns : ∀ (i : Nat) c N,X.H[i]? = some c → i < m ∨ c.live = true → X.ns[i]? = some N → X'.ns[τ i]? = some N
  t : X'.t = X.t
  n : X'.n = X.n
  fb : ∀ N,X'.fb N → X.fb N
  len : X.ns.length = X.H.length
theorem conAt_of {H : Hp U} : ∀ {i : Nat} {c : Con U},H[i]? = some c → conAt H i = c := by
  induction H with
  | nil => intro i c h; simp at h
  | cons d H ih =>
    intro i c h
    cases i with
    | zero => simp at h; subst h; rfl
    | succ i => exact ih (by simpa using h)
theorem up1_den (ok : SysOk T S) {X X' : Env U} {m : Nat} {τ : Nat → Nat} (g : Up X X' m τ) {v : SV U} {w : Value} (d : Den S X v w) : Den S X' (up1 X.H m τ v) w := by
  have hmv : ∀ {x : SV U} {u : Value},idf x = true → Den S X x u → Den S X' x u := fun hi d => idf_move (X := X) (Y := X') ok g.t g.n g.fb d fun v hv => by rw [List.mem_singleton] at hv; subst hv; exact hi
  cases v with
  | undef => exact .undef .nil
  | skip => have : w = Go.undef := by cases d; rfl
            subst this; exact .skip .nil
  | ptr i o =>
    obtain ⟨N,hN,rfl⟩ := ptr_inv d
    show Den S X' (bif Nat.blt i m || (conAt X.H i).live then .ptr (τ i) o else .undef) _
    cases hb : Nat.blt i m || (conAt X.H i).live with
    | false => exact .undef .nil
    | true =>
      have hi : i < X.H.length := by rw [← g.len]; exact (List.getElem?_eq_some_iff.1 hN).1
      have hc : X.H[i]? = some X.H[i] := List.getElem?_eq_getElem hi
      refine .ptr (g.ns i _ _ hc ?_ hN) .nil
      rw [Bool.or_eq_true] at hb
      rcases hb with h | h
      · exact .inl (Nat.le_of_ble_eq_true h)
      · rw [conAt_of hc] at h; exact .inr h
  | ol i =>
    have ho : olDen S X i w := by cases d; assumption
    have h2 : olDen S X' (τ i) w := by
      unfold olDen at ho ⊢
      cases hc : X.H[i]? with
      | none => rw [hc] at ho; exact ho.elim
      | some c =>
        by_cases hl : i < m ∨ c.live = true
        · rw [g.H i c hc hl]
          rw [hc] at ho
          cases c with
          | list fz ex e k l =>
            obtain ⟨N,h1,h2⟩ := ho
            exact ⟨N,g.ns i _ _ hc hl h1,h2⟩
          | _ => trivial
        · rw [g.D i c hc hl]; trivial
    cases d with
    | ol _ _ => exact .ol h2 .nil
  | osl i b n =>
    have ho : oslDen S X i b n w := osl_inv d
    have h2 : oslDen S X' (τ i) b n w := by
      unfold oslDen at ho ⊢
      cases hc : X.H[i]? with
      | none => rw [hc] at ho; exact ho.elim
      | some c =>
        by_cases hl : i < m ∨ c.live = true
        · rw [g.H i c hc hl]
          rw [hc] at ho
          cases c with
          | list fz ex e k l =>
            obtain ⟨N,h1,h2⟩ := ho
            exact ⟨N,g.ns i _ _ hc hl h1,h2⟩
          | _ => trivial
        · rw [g.D i c hc hl]; trivial
    cases d with
    | osl _ _ => exact .osl h2 .nil
  | olp i j o =>
    obtain ⟨N,p,rfl,hq⟩ := olp_inv d
    refine .olp ?_ .nil
    unfold olpDen at hq ⊢
    cases hc : X.H[i]? with
    | none => rw [hc] at hq; exact hq.elim
    | some c =>
      by_cases hl : i < m ∨ c.live = true
      · rw [g.H i c hc hl]
        rw [hc] at hq
        cases c with
        | list fz ex e k l => exact ⟨g.ns i _ _ hc hl hq.1,hq.2⟩
        | _ => trivial
      · rw [g.D i c hc hl]; trivial
  | agg _ => exact .undef .nil
  | tup _ => exact .undef .nil
  | func _ _ _ => exact .undef .nil
  | yld _ => exact .undef .nil
  | iface _ _ => exact .undef .nil
  | _ => exact hmv rfl d
theorem denL_map {X Y : Env U} {g : SV U → SV U} (h : ∀ v w,Den S X v w → Den S Y (g v) w) : ∀ {l : List (SV U)} {vs : List Value},DenL S X l vs → DenL S Y (l.map g) vs
  | [],vs,d => by cases d; exact .nil
  | v :: l,vs,d => by
    obtain ⟨w,ws,rfl,h1,h2⟩ := d.uncons
    exact DenL.cons (h _ _ h1) (denL_map h h2)
theorem up2_den (ok : SysOk T S) {X X' : Env U} {m : Nat} {τ : Nat → Nat} (g : Up X X' m τ) {v : SV U} {w : Value} (d : Den S X v w) : Den S X' (up2 X.H m τ v) w := by
  cases v with
  | agg l => obtain ⟨vs,rfl,d'⟩ := agg_inv d; exact .agg (denL_map (fun _ _ => up1_den ok g) d') .nil
  | tup l => obtain ⟨vs,rfl,d'⟩ := tup_inv d; exact .tup (denL_map (fun _ _ => up1_den ok g) d') .nil
  | func f a c => obtain ⟨as,cs,rfl,d1,d2⟩ := func_inv d; exact .func (denL_map (fun _ _ => up1_den ok g) d1) (denL_map (fun _ _ => up1_den ok g) d2) .nil
  | iface t x => obtain ⟨u,rfl,d'⟩ := iface_inv d; exact .iface (up1_den ok g d') .nil
  | _ => exact up1_den ok g d
theorem up3_den (ok : SysOk T S) {X X' : Env U} {m : Nat} {τ : Nat → Nat} (g : Up X X' m τ) {v : SV U} {w : Value} (d : Den S X v w) : Den S X' (up3 X.H m τ v) w := by
  cases v with
  | agg l => obtain ⟨vs,rfl,d'⟩ := agg_inv d; exact .agg (denL_map (fun _ _ => up2_den ok g) d') .nil
  | tup l => obtain ⟨vs,rfl,d'⟩ := tup_inv d; exact .tup (denL_map (fun _ _ => up2_den ok g) d') .nil
  | func f a c => obtain ⟨as,cs,rfl,d1,d2⟩ := func_inv d; exact .func (denL_map (fun _ _ => up2_den ok g) d1) (denL_map (fun _ _ => up2_den ok g) d2) .nil
  | iface t x => obtain ⟨u,rfl,d'⟩ := iface_inv d; exact .iface (up2_den ok g d') .nil
  | _ => exact up1_den ok g d
theorem upC_ok (ok : SysOk T S) {X X' : Env U} {m : Nat} {τ : Nat → Nat} (g : Up X X' m τ) {N : Option Nat} {c : Con U} (h : ConOk S X N c) : ConOk S X' N (upC X.H m τ c) := by
  cases c with
  | dead => trivial
  | loop r st pd =>
    obtain ⟨M,h1,h2,h3⟩ := h
    exact ⟨M,h1,by rw [g.t]; exact h2,by rw [g.n]; exact h3⟩
  | siter x p =>
    obtain ⟨M,h1,h2,h3⟩ := h
    exact ⟨M,h1,by rw [g.t]; exact h2,by rw [g.n]; exact h3⟩
  | cells fz e vs =>
    obtain ⟨M,ws,h1,h2,h3,h4,h5⟩ := h
    exact ⟨M,ws,h1,by rw [g.t]; exact h2,denL_map (fun _ _ => up3_den ok g) h3,by rw [g.n]; exact h4,fun hf hb => h5 hf (g.fb _ hb)⟩
  | list fz ex e c l =>
    obtain ⟨h0,h⟩ := h
    refine ⟨h0,?_⟩
    cases N with
    | none => exact h
    | some M =>
      obtain ⟨ws,cs,h2,h3,h4,h5,h6,h7⟩ := h
      exact ⟨ws,cs,by rw [g.t]; exact h2,h3,h4,fun j x hx => idf_move (X := X) (Y := X') ok g.t g.n g.fb (h5 j x hx) (ok.idf _ _),by rw [g.n]; exact h6,fun hf hb => h7 hf (g.fb _ hb)⟩
end Go.Sx

/-
  SX, PART W: a contract over a few entries holds in any heap: the theorem.
-/
namespace Go.Sx
open Go Go.Ev Go.RowKit
variable {U : Nat → Type} {T : Tab} {S : Sys U}
def mapI (f : Nat → Con U → Con U) : Nat → Hp U → Hp U
  | _,[] => []
  | k,c :: l => f k c :: mapI f (Nat.succ k) l
theorem mapI_get {f : Nat → Con U → Con U} : ∀ {l : Hp U} {k i : Nat},(mapI f k l)[i]? = (l[i]?).map (f (k + i))
  | [],k,i => by simp [mapI]
  | c :: l,k,0 => rfl
  | c :: l,k,i + 1 => by
    show (mapI f (Nat.succ k) l)[i]? = _
    rw [mapI_get,show k + (i + 1) = Nat.succ k + i by omega]; simp
theorem mapI_len {f : Nat → Con U → Con U} : ∀ {l : Hp U} {k : Nat},(mapI f k l).length = l.length
  | [],k => rfl
  | c :: l,k => by show (mapI f (Nat.succ k) l).length + 1 = _; rw [mapI_len]; rfl
def atN : List Nat → Nat → Nat → Nat
  | [],n,i => n + i
  | j :: _,_,0 => j
  | _ :: js,n,i + 1 => atN js n i
theorem atN_lt : ∀ {js : List Nat} {n i j : Nat},js[i]? = some j → atN js n i = j
  | [],n,i,j,h => by simp at h
  | a :: js,n,0,j,h => by simp at h; exact h
  | a :: js,n,i + 1,j,h => atN_lt (js := js) (by simpa using h)
theorem atN_ge : ∀ {js : List Nat} {n k : Nat},atN js n (js.length + k) = n + k
  | [],n,k => by show n + (0 + k) = _; omega
  | a :: js,n,k => by
    show atN (a :: js) n (js.length + 1 + k) = _
    rw [show js.length + 1 + k = (js.length + k) + 1 by omega]; exact atN_ge (js := js)
def oldC (H1 : Hp U) (m : Nat) (τ : Nat → Nat) (o : Option Nat) (c : Con U) : Con U := match o with
  | some i => upC H1 m τ (conAt H1 i)
  | none => c
def newC (H1 : Hp U) (m : Nat) (τ : Nat → Nat) (c : Con U) : Con U := bif c.live then upC H1 m τ c else .dead
def liftH (H : Hp U) (js : List Nat) (H1 : Hp U) : Hp U :=
  mapI (fun k c => oldC H1 js.length (atN js H.length) (idx js 0 k) c) 0 H ++ (H1.drop js.length).map (newC H1 js.length (atN js H.length))
theorem upC_live {H1 : Hp U} {m : Nat} {τ : Nat → Nat} {c : Con U} : (upC H1 m τ c).live = c.live := by cases c <;> rfl
theorem upC_list {H1 : Hp U} {m : Nat} {τ : Nat → Nat} {c : Con U} {fz ex : Bool} {e k : Nat} {l : List (U k)} (h : upC H1 m τ c = .list fz ex e k l) : c = .list fz ex e k l := by
  cases c with
  | list _ _ _ _ _ => exact h
  | cells _ _ _ => cases h
  | loop _ _ _ => cases h
  | siter _ _ => cases h
  | dead => cases h
theorem downC_list {js : List Nat} {c : Con U} {fz ex : Bool} {e k : Nat} {l : List (U k)} (h : downC js c = .list fz ex e k l) : c = .list fz ex e k l := by
  cases c with
  | list _ _ _ _ _ => exact h
  | cells _ _ _ => cases h
  | loop _ _ _ => cases h
  | siter _ _ => cases h
  | dead => cases h
theorem conAt_live {H : Hp U} {i : Nat} (h : (conAt H i).live = true) : H[i]? = some (conAt H i) := conAt_get rfl (fun e => by rw [e] at h; cases h)
theorem lift_run (ok : SysOk T S) {wr : Bool} {f : FuncId} {H : Hp U} {args : List (SV U)} {K : SV U → Hp U → Prop} {js : List Nat} (hj : nodupB js = true) (hlt : ∀ j ∈ js,j < H.length)
    (h : CallOk T S wr f (locH H js) (args.map (down3 js)) (fun r H1 => K (up3 H1 js.length (atN js H.length) r) (liftH H js H1))) : CallOk T S wr f H args K := by
  intro X vals hH hr hd s h1 h2
  subst hH
  -- the heap as the function is told it
  let nm : Nat → Prop := fun N => ∃ j ∈ js,X.ns[j]? = some (some N)
  let X1 : Env U := ⟨fun N => X.fb N ∧ ¬ nm N,X.ns,X.H,X.t,X.n⟩
  have hL1 : Later X X1 := ⟨fun _ _ h => h,fun _ c h => ⟨c,h,fun fz ex e k l e' => ⟨fz,l,e',rfl⟩⟩,fun N _ hf => ⟨rfl,fun hb => hf (by
    rcases hb with hb | hb
    · exact hb.1
    · exact .inr hb)⟩,Nat.le_refl _⟩
  have he := eqH_loc X.H js
  have hjl : (locH X.H js).length = js.length := by simp [locH]
  have hjs : ∀ i,i < js.length → ∃ j,js[i]? = some j := fun i hi => ⟨_,List.getElem?_eq_getElem hi⟩
  have hren : ∀ i,i < js.length → ∃ j,js[i]? = some j ∧ ren (toRen js 0) i = j := fun i hi => by
    obtain ⟨j,hj⟩ := hjs i hi
    have := ren_toRen (i := 0) hj
    rw [Nat.zero_add] at this
    exact ⟨j,hj,this⟩
  have hfbn : ∀ N,X.fb N → N < X.n := fun N hN => by
    rcases hN with hN | ⟨i,c,k1,_,_⟩
    · exact hr.wbl N hN
    · exact (hr.lt i N k1).1
  let X0 : Env U := X1.ren (toRen js 0) (locH X.H js)
  have hr0 : HRel S X0 := ren_relW ok (X := X1) hr.len (fun i c N k1 k2 => (hr.ok i c N k1 k2).later hL1 fun _ _ => rfl) hr.inj (fun i N hi k => by
      rw [hjl] at hi
      obtain ⟨j,g1,g2⟩ := hren i hi
      rw [g2] at k
      exact ⟨(hr.lt _ _ k).1,fun hw => hw.2 ⟨j,List.mem_of_getElem? g1,k⟩⟩) (fun N hN => hfbn N hN.1) he (fun i k hi hk e => by
      rw [hjl] at hi hk
      obtain ⟨j,g1,g2⟩ := hren i hi
      obtain ⟨j',g3,g4⟩ := hren k hk
      rw [g2,g4] at e
      subst e
      exact nodup_inj hj g1 g3)
  have hd0 : DenL S X0 (args.map (down3 js)) vals := by
    have he' := he
    rw [hjl] at he'
    refine eqL_den (X := X1) (R := eq3 (locH X.H js).length (toRen js 0)) (fun v0 v w a b => eq3_den (X := X1) ok he a b) (eqL_map (fun v => ?_) args) (hd.later hL1)
    rw [hjl]; exact eq3_down js v
  refine (h X0 vals rfl hr0 hd0 s h1 h2).mono fun v s' ⟨sv,H1,ns',d,hK,hden,hst,hwr⟩ => ?_
  generalize hY : (⟨X0.wb,X0.ns ++ ns',H1,s'.t,s'.next⟩ : Env U) = Y at hden hst
  have yH : Y.H = H1 := by rw [← hY]
  have yns : Y.ns = X0.ns ++ ns' := by rw [← hY]
  have ywb : Y.wb = X0.wb := by rw [← hY]
  have yt : Y.t = s'.t := by rw [← hY]
  have yn : Y.n = s'.next := by rw [← hY]
  have x0l : X0.ns.length = js.length := by show (nsR _ _ _).length = _; simp [nsR,hjl]
  have x0ns : ∀ i j,js[i]? = some j → X0.ns[i]? = X.ns[j]? := fun i j hij => by
    have hi : i < js.length := (List.getElem?_eq_some_iff.1 hij).1
    have := ren_toRen (i := 0) hij
    rw [Nat.zero_add] at this
    show (nsR _ _ _)[i]? = _
    rw [nsR_get (by rw [hjl]; exact hi),this]
    have hjn : j < X.ns.length := by rw [hr.len]; exact hlt j (List.mem_of_getElem? hij)
    show some ((X.ns[j]?).getD none) = _
    rw [List.getElem?_eq_getElem hjn]; rfl
  have yl : H1.length = js.length + ns'.length := by
    have := hst.rel.len
    rw [yH,yns,List.length_append,x0l] at this; exact this.symm
  let m := js.length
  let τ := atN js X.H.length
  let nsN : List (Option Nat) := (List.range ns'.length).map fun k => if (conAt H1 (m + k)).live = true then (ns'[k]?).getD none else none
  let L := liftH X.H js H1
  let Z : Env U := ⟨X.wb,X.ns ++ nsN,L,s'.t,s'.next⟩
  have nl : nsN.length = ns'.length := by simp [nsN]
  have Ll : L.length = X.H.length + ns'.length := by
    show (mapI _ 0 X.H ++ _).length = _
    rw [List.length_append,mapI_len,List.length_map,List.length_drop,yl]; omega
  have L2 : ∀ k,k < X.H.length → L[k]? = (X.H[k]?).map (oldC H1 m τ (idx js 0 k)) := fun k hk => by
    show (mapI _ 0 X.H ++ _)[k]? = _
    rw [List.getElem?_append_left (by rw [mapI_len]; exact hk),mapI_get,Nat.zero_add]
  have L3 : ∀ i j,js[i]? = some j → L[j]? = some (upC H1 m τ (conAt H1 i)) := fun i j hij => by
    have hk := hlt j (List.mem_of_getElem? hij)
    rw [L2 j hk,List.getElem?_eq_getElem hk,idx_of (i := 0) hj hij,Nat.zero_add]; rfl
  have L1 : ∀ k,k < X.H.length → k ∉ js → L[k]? = X.H[k]? := fun k hk hn => by
    rw [L2 k hk]
    cases hi : idx js 0 k with
    | none => cases X.H[k]? <;> rfl
    | some a =>
      obtain ⟨b,_,hb⟩ := idx_some hi
      exact absurd (List.mem_of_getElem? hb) hn
  have L4 : ∀ k c,H1[m + k]? = some c → L[X.H.length + k]? = some (newC H1 m τ c) := fun k c hc => by
    show (mapI _ 0 X.H ++ _)[X.H.length + k]? = _
    rw [List.getElem?_append_right (by rw [mapI_len]; omega),mapI_len,Nat.add_sub_cancel_left,List.getElem?_map,List.getElem?_drop]
    show Option.map _ (H1[m + k]?) = _
    rw [hc]; rfl
  have N1 : ∀ k,k < X.H.length → Z.ns[k]? = X.ns[k]? := fun k hk => by
    show (X.ns ++ nsN)[k]? = _
    rw [List.getElem?_append_left (by rw [hr.len]; exact hk)]
  have N2 : ∀ k,k < ns'.length → Z.ns[X.H.length + k]? = some (if (conAt H1 (m + k)).live = true then (ns'[k]?).getD none else none) := fun k hk => by
    show (X.ns ++ nsN)[X.H.length + k]? = _
    rw [List.getElem?_append_right (by rw [hr.len]; omega),hr.len,Nat.add_sub_cancel_left]
    show ((List.range ns'.length).map _)[k]? = _
    rw [List.getElem?_map,List.getElem?_range hk]; rfl
  have Y1 : ∀ i j,js[i]? = some j → Y.ns[i]? = X.ns[j]? := fun i j hij => by
    rw [yns,List.getElem?_append_left (by rw [x0l]; exact (List.getElem?_eq_some_iff.1 hij).1),x0ns i j hij]
  have Y2 : ∀ k,Y.ns[m + k]? = ns'[k]? := fun k => by
    rw [yns,List.getElem?_append_right (by rw [x0l]; omega),x0l,Nat.add_sub_cancel_left]
  -- a new entry that has a name is live
  have N3 : ∀ k N,Z.ns[X.H.length + k]? = some (some N) → ∃ c,Y.H[m + k]? = some c ∧ c.live = true ∧ Y.ns[m + k]? = some (some N) := fun k N hk => by
    have hkl : k < ns'.length := by
      have := (List.getElem?_eq_some_iff.1 hk).1
      have hz : Z.ns.length = X.H.length + ns'.length := by show (X.ns ++ nsN).length = _; rw [List.length_append,nl,hr.len]
      omega
    rw [N2 k hkl] at hk
    by_cases hlv : (conAt H1 (m + k)).live = true
    · rw [if_pos hlv,Option.some.injEq] at hk
      refine ⟨_,by rw [yH]; exact conAt_live hlv,hlv,?_⟩
      rw [Y2]
      rw [List.getElem?_eq_getElem hkl] at hk ⊢
      exact congrArg some hk
    · rw [if_neg hlv] at hk; cases hk
  have split : ∀ k,k < X.H.length ∨ ∃ q,k = X.H.length + q := fun k => by
    by_cases h : k < X.H.length
    · exact .inl h
    · exact .inr ⟨k - X.H.length,by omega⟩
  have x0live : ∀ N,X0.liveN N → X.liveN N ∧ nm N := fun N hN => by
    refine ⟨ren_live (X := X1) he hN,?_⟩
    obtain ⟨i,c,k1,_,_⟩ := hN
    have hi : i < js.length := by rw [← x0l]; exact (List.getElem?_eq_some_iff.1 k1).1
    obtain ⟨j,g⟩ := hjs i hi
    rw [x0ns i j g] at k1
    exact ⟨j,List.mem_of_getElem? g,k1⟩
  have wbnm : ∀ N,X.wb N → X0.wb N := fun N hN => ⟨.inl hN,fun ⟨j,_,g⟩ => (hr.lt j N g).2 hN⟩
  have x0fb : ∀ N,X0.fb N → X.fb N := fun N hN => by
    rcases hN with hN | hN
    · exact hN.1
    · exact .inr (x0live N hN).1
  have live3 : ∀ N,Z.liveN N → Y.liveN N ∨ (X.liveN N ∧ X0.wb N) := fun N ⟨k,c,k1,k2,k3⟩ => by
    have k2 : L[k]? = some c := k2
    rcases split k with hk | ⟨q,rfl⟩
    · by_cases hkj : k ∈ js
      · obtain ⟨i,hi⟩ := List.mem_iff_getElem?.1 hkj
        rw [L3 i k hi] at k2
        cases k2
        rw [upC_live] at k3
        rw [N1 k hk] at k1
        exact .inl ⟨i,_,by rw [Y1 i k hi]; exact k1,by rw [yH]; exact conAt_live k3,k3⟩
      · rw [L1 k hk hkj] at k2
        rw [N1 k hk] at k1
        have hl : X.liveN N := ⟨k,c,k1,k2,k3⟩
        refine .inr ⟨hl,.inr hl,fun ⟨j,hj1,g⟩ => ?_⟩
        have := hr.inj _ _ _ k1 g
        subst this; exact hkj hj1
    · obtain ⟨c',g1,g2,g3⟩ := N3 q N k1
      exact .inl ⟨_,c',g3,g1,g2⟩
  have zfb : ∀ N,Z.fb N → Y.fb N := fun N hN => by
    rcases hN with hN | hN
    · exact .inl (by rw [ywb]; exact wbnm N hN)
    · rcases live3 N hN with h | h
      · exact .inr h
      · exact .inl (by rw [ywb]; exact h.2)
  have hup : Up Y Z m τ := by
    refine ⟨fun i c hc hl => ?_,fun i c hc hl => ?_,fun i c N hc hl hN => ?_,yt.symm,yn.symm,zfb,hst.rel.len⟩
    · rw [yH] at hc ⊢
      by_cases hi : i < m
      · obtain ⟨j,hj⟩ := hjs i hi
        show L[atN js X.H.length i]? = _
        rw [atN_lt hj,L3 i j hj,conAt_of hc]
      · obtain ⟨k,rfl⟩ : ∃ k,i = m + k := ⟨i - m,by omega⟩
        show L[atN js X.H.length (js.length + k)]? = _
        rw [atN_ge,L4 k c hc]
        rcases hl with hl | hl
        · exact absurd hl hi
        · unfold newC; rw [hl]; rfl
    · rw [yH] at hc
      obtain ⟨k,rfl⟩ : ∃ k,i = m + k := ⟨i - m,by omega⟩
      show L[atN js X.H.length (js.length + k)]? = _
      rw [atN_ge,L4 k c hc]
      cases hcl : c.live with
      | true => exact absurd (.inr hcl) hl
      | false => unfold newC; rw [hcl]; rfl
    · rw [yH] at hc
      by_cases hi : i < m
      · obtain ⟨j,hj⟩ := hjs i hi
        show Z.ns[atN js X.H.length i]? = _
        rw [atN_lt hj,N1 j (hlt j (List.mem_of_getElem? hj)),← Y1 i j hj]; exact hN
      · obtain ⟨k,rfl⟩ : ∃ k,i = m + k := ⟨i - m,by omega⟩
        show Z.ns[atN js X.H.length (js.length + k)]? = _
        rcases hl with hl | hl
        · exact absurd hl hi
        · rw [Y2] at hN
          rw [atN_ge,N2 k (List.getElem?_eq_some_iff.1 hN).1,conAt_of hc,if_pos hl,hN]; rfl
  have mem0 : ∀ N,N < X.n → ¬ X0.liveN N → s'.t.get N = X.t.get N := fun N hN hl => by
    rw [← h1]
    exact hst.old N (by rw [h2]; exact hN) fun hd => hl (hst.dl N hd).2
  have hlat : Later X Z := by
    refine ⟨fun i N hi => ?_,fun i c hc => ?_,fun N hN hf => ?_,by rw [← h2]; exact hst.next⟩
    · rw [N1 i (by rw [← hr.len]; exact (List.getElem?_eq_some_iff.1 hi).1)]; exact hi
    · have hk : i < X.H.length := (List.getElem?_eq_some_iff.1 hc).1
      by_cases hij : i ∈ js
      · obtain ⟨a,ha⟩ := List.mem_iff_getElem?.1 hij
        refine ⟨_,L3 a i ha,fun fz ex e k l hl => ?_⟩
        have hl := upC_list hl
        have h0 : X0.H[a]? = some (downC js (conAt X.H i)) := by
          show (js.map _)[a]? = _
          rw [List.getElem?_map,ha]; rfl
        obtain ⟨c',g1,g2⟩ := hst.later.H a _ h0
        rw [yH] at g1
        have := conAt_of g1
        rw [this] at hl
        obtain ⟨fz',l',g3,g4⟩ := g2 fz ex e k l hl
        have g3 := downC_list g3
        rw [conAt_of hc] at g3
        exact ⟨fz',l',g3,g4⟩
      · exact ⟨c,(L1 i hk hij).trans hc,fun fz ex e k l e' => ⟨fz,l,e',rfl⟩⟩
    · obtain ⟨g1,g2⟩ := hst.later.mem N hN fun h => hf (x0fb N h)
      exact ⟨by rw [yt] at g1; exact g1,fun h => g2 (zfb N h)⟩
  have notin : ∀ k N,k < X.H.length → k ∉ js → X.ns[k]? = some (some N) → ¬ X0.liveN N := fun k N _ hkj hk hl => by
    obtain ⟨j,hj1,g⟩ := (x0live N hl).2
    have := hr.inj _ _ _ hk g
    subst this; exact hkj hj1
  have hrel : HRel S Z := by
    refine ⟨?_,fun k c N k1 k2 => ?_,fun a b N k1 k2 => ?_,fun k N hk => ?_,fun N hN => Nat.lt_of_lt_of_le (hr.wbl N hN) hlat.n⟩
    · show (X.ns ++ nsN).length = L.length
      rw [List.length_append,nl,Ll,hr.len]
    · have k1 : L[k]? = some c := k1
      rcases split k with hk | ⟨q,rfl⟩
      · rw [N1 k hk] at k2
        by_cases hkj : k ∈ js
        · obtain ⟨i,hi⟩ := List.mem_iff_getElem?.1 hkj
          rw [L3 i k hi] at k1
          cases k1
          have hil : i < H1.length := by have := (List.getElem?_eq_some_iff.1 hi).1; omega
          have hc : H1[i]? = some H1[i] := List.getElem?_eq_getElem hil
          have := upC_ok ok hup (hst.rel.ok i H1[i] N (by rw [yH]; exact hc) (by rw [Y1 i k hi]; exact k2))
          rw [yH] at this
          rw [conAt_of hc]; exact this
        · rw [L1 k hk hkj] at k1
          refine (hr.ok k c N k1 k2).later hlat fun M hM => ?_
          subst hM
          exact mem0 M (hr.lt k M k2).1 (notin k M hk hkj k2)
      · have hq : q < ns'.length := by have := (List.getElem?_eq_some_iff.1 k1).1; omega
        have hc : H1[m + q]? = some H1[m + q] := List.getElem?_eq_getElem (by show js.length + q < _; omega)
        rw [L4 q _ hc] at k1
        cases k1
        cases hlv : (H1[m + q]).live with
        | false => unfold newC; rw [hlv]; trivial
        | true =>
          have hnc : newC H1 m τ H1[m + q] = upC H1 m τ H1[m + q] := by unfold newC; rw [hlv]; rfl
          rw [hnc]
          rw [N2 q hq,conAt_of hc,if_pos hlv,Option.some.injEq] at k2
          have hn' : ns'[q]? = some N := by rw [List.getElem?_eq_getElem hq] at k2 ⊢; exact congrArg some k2
          have := upC_ok ok hup (hst.rel.ok (m + q) _ N (by rw [yH]; exact hc) (by rw [Y2]; exact hn'))
          rw [yH] at this; exact this
    · have cross : ∀ a q,a < X.H.length → X.ns[a]? = some (some N) → Z.ns[X.H.length + q]? = some (some N) → False := fun a q ha g1 g2 => by
        obtain ⟨c',e1,e2,e3⟩ := N3 q N g2
        by_cases haj : a ∈ js
        · obtain ⟨i,hi⟩ := List.mem_iff_getElem?.1 haj
          have := hst.rel.inj i (m + q) N (by rw [Y1 i a hi]; exact g1) e3
          have := (List.getElem?_eq_some_iff.1 hi).1
          omega
        · exact notin a N ha haj g1 (hst.live N (by rw [h2]; exact (hr.lt a N g1).1) ⟨_,c',e3,e1,e2⟩)
      rcases split a with ha | ⟨p,rfl⟩ <;> rcases split b with hb | ⟨q,rfl⟩
      · rw [N1 a ha] at k1; rw [N1 b hb] at k2; exact hr.inj a b N k1 k2
      · rw [N1 a ha] at k1; exact (cross a q ha k1 k2).elim
      · rw [N1 b hb] at k2; exact (cross b p hb k2 k1).elim
      · obtain ⟨_,_,_,e3⟩ := N3 p N k1
        obtain ⟨_,_,_,e4⟩ := N3 q N k2
        have := hst.rel.inj _ _ N e3 e4
        omega
    · rcases split k with hk' | ⟨q,rfl⟩
      · rw [N1 k hk'] at hk
        exact ⟨Nat.lt_of_lt_of_le (hr.lt k N hk).1 hlat.n,(hr.lt k N hk).2⟩
      · obtain ⟨_,_,_,e3⟩ := N3 q N hk
        obtain ⟨g1,g2⟩ := hst.rel.lt _ N e3
        exact ⟨by rw [yn] at g1; exact g1,fun hw => g2 (by rw [ywb]; exact wbnm N hw)⟩
  have hstep : Step S X s Z s' d := by
    refine ⟨rfl,rfl,rfl,hrel,hlat,hst.next,fun N hN hl => ?_,hst.mods,fun N hN => ⟨(hst.dl N hN).1,(x0live N (hst.dl N hN).2).1⟩,hst.old,List.prefix_append _ _⟩
    rcases live3 N hl with h | h
    · exact (x0live N (hst.live N hN h)).1
    · exact h.1
  have hfin := up3_den ok hup hden
  rw [yH] at hfin
  exact ⟨_,L,nsN,d,hK,hfin,hstep,hwr⟩
def ids1 : SV U → List Nat
  | .ptr i _ | .ol i | .osl i _ _ | .olp i _ _ => [i]
  | _ => []
def ids2 : SV U → List Nat
  | .agg l | .tup l => l.flatMap ids1
  | .func _ a c => a.flatMap ids1 ++ c.flatMap ids1
  | .iface _ x => ids1 x
  | v => ids1 v
def ids3 : SV U → List Nat
  | .agg l | .tup l => l.flatMap ids2
  | .func _ a c => a.flatMap ids2 ++ c.flatMap ids2
  | .iface _ x => ids2 x
  | v => ids1 v
def idsC : Con U → List Nat
  | .cells _ _ vs => vs.flatMap ids3
  | _ => []
def addN : List Nat → List Nat → List Nat
  | [],js => js
  | i :: l,js => addN l (bif memN js i then js else js ++ [i])
def closeN (H : Hp U) : Nat → List Nat → List Nat
  | 0,js => js
  | n + 1,js => closeN H n (addN (js.flatMap fun j => idsC (conAt H j)) js)
def allLt (n : Nat) : List Nat → Bool
  | [] => true
  | j :: js => Nat.blt j n && allLt n js
theorem allLt_ok {n : Nat} : ∀ {js : List Nat},allLt n js = true → ∀ j ∈ js,j < n
  | [],_,j,h => by cases h
  | a :: js,hn,j,h => by
    obtain ⟨h1,h2⟩ := and_tt hn
    rcases List.mem_cons.1 h with rfl | h
    · exact Nat.le_of_ble_eq_true h1
    · exact allLt_ok h2 j h
def forceN : List Nat → (List Nat → Prop) → Prop
  | [],K => K []
  | i :: l,K => forceN l fun l => K (i :: l)
theorem forceN_eq : ∀ (l : List Nat) (K : List Nat → Prop),forceN l K = K l
  | [],_ => rfl
  | i :: l,K => by simp only [forceN,forceN_eq l]
def lifted (sp : Spec U) : Spec U := ⟨sp.wr,sp.own,fun H args K => forceN (closeN H 3 (addN (args.flatMap ids3) [])) fun js => bif nodupB js && allLt H.length js then forceH (locH H js) fun L => forceL force (args.map (down3 js)) fun as => sp.run L as (fun r H1 => K (up3 H1 js.length (atN js H.length) r) (liftH H js H1)) else False⟩
theorem lifted_ok (ok : SysOk T S) {sp : Spec U} {f : FuncId} (h : ∀ H args K,sp.run H args K → CallOk T S sp.wr f H args K) : ∀ H args K,(lifted sp).run H args K → CallOk T S (lifted sp).wr f H args K := by
  intro H args K hr
  unfold lifted at hr
  dsimp only at hr
  rw [forceN_eq] at hr
  obtain ⟨hc,hr⟩ := bif_true hr
  rw [forceH_eq,forceL_eq force_eq] at hr
  obtain ⟨h1,h2⟩ := and_tt hc
  exact lift_run ok h1 (allLt_ok h2) (h _ _ _ hr)
end Go.Sx

/-
  SX, PART X, once more: a law that puts one of its arguments into a box, and then asks its fixed fact.
-/
namespace Go.Sx
open Go Go.Ev Go.RowKit
variable {U : Nat → Type} {T : Tab}
end Go.Sx
