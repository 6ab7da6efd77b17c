/-
  SX, PART T: what is known of the types, by a table that the kernel looks through.
-/
import Derived.Test.YtelpkdjibjddlaaEvSxP
namespace Go.Sx
open Go Go.Ev Go.RowKit
variable {U : Nat → Type}
inductive Z where
  | i (k : IntKind) | b | s | p | sl | f | n | m
def Z.sv : Z → SV U
  | .i k => .int k 0 | .b => .bool false | .s => .str [] | .p => .nilP | .sl => .nilS | .f => .nilF | .n => .nilI | .m => .nilM
def Z.okV : Z → Value → Bool
  | .i k,.int k' x => decide (k = k') && decide (x = 0)
  | .b,.bool q => !q
  | .s,.string q => q.data.toList.isEmpty
  | .p,.pointer none => true
  | .sl,.slice none 0 0 => true
  | .f,.nilFunc => true
  | .n,.nilIface => true
  | .m,.map none => true
  | _,_ => false
def Z.okL : List Z → List Value → Bool
  | [],[] => true
  | z :: zs,v :: vs => z.okV v && okL zs vs
  | _,_ => false
structure TI where
  td : TD
  size : Nat
  agg : Bool
  bytes : Nat
  ty : Nat
  zero : List Z
  cmp : Bool
  eqs : Bool
def TI.no : TI := ⟨.none,0,false,0,0,[],false,false⟩
def lookT : List (Nat × TI) → Nat → TI
  | [],_ => .no
  | (t,i) :: l,n => bif Nat.beq n t then i else lookT l n
def mapZ : List Z → List (SV U)
  | [] => []
  | z :: l => z.sv :: mapZ l
def mkSys (tab : List (Nat × TI)) (k : Nat → Nat) (cells : (c : Nat) → U c → List (SV U)) (of : (c : Nat) → List (SV U) → Option (U c)) : Sys U where
  td t := (lookT tab t).td
  size t := (lookT tab t).size
  agg t := (lookT tab t).agg
  ty t := (lookT tab t).ty
  bytes t := (lookT tab t).bytes
  k := k
  cells := cells
  of := of
  zero t := mapZ (lookT tab t).zero
  cmp t := (lookT tab t).cmp
  eqs t := (lookT tab t).eqs
def aggOk (o : Option TypeDesc) (a : Bool) : Bool := match o with
  | some d => isAggD d == a
  | none => false
def okFs (T : Tab) (tab : List (Nat × TI)) : List (Nat × Nat × TypeId) → List Field → Bool
  | [],[] => true
  | (o,n,u) :: fs,f :: gs => decide (f.offset = o) && decide (f.type = u) && decide (T.size u = some n) && aggOk (T.und u) (lookT tab u).agg && okFs T tab fs gs
  | _,_ => false
def okTD (T : Tab) (tab : List (Nat × TI)) (t : TypeId) : TD → Bool
  | .int k => (match T.und t with | some (.int k') => decide (k' = k) | _ => false)
  | .bool => (match T.und t with | some .bool => true | _ => false)
  | .str => (match T.und t with | some .string => true | _ => false)
  | .ptr e => (match T.und t with | some (.pointer e') => decide (e' = e) | _ => false)
  | .slice e => (match T.und t with | some (.slice e') => decide (e' = e) | _ => false)
  | .struct fs => (match T.und t with | some (.struct gs) => okFs T tab fs gs.toList | _ => false)
  | .arr n e => (match T.und t with | some (.array n' e') => decide (n' = n) && decide (e' = e) | _ => false)
  | .iface => (match T.und t with | some (.interface _) => true | _ => false)
  | .func => (match T.und t with | some (.func _ _ _) => true | _ => false)
  | .map k e => (match T.und t with | some (.map k' e') => decide (k' = k) && decide (e' = e) | _ => false)
  | .none => true
def okTI (T : Tab) (tab : List (Nat × TI)) (t : TypeId) (i : TI) : Bool :=
  okTD T tab t i.td && (decide (i.size = 0) || (decide (T.size t = some i.size) && aggOk (T.und t) i.agg)) && (decide (i.bytes = 0) || decide (T.bytes t = some i.bytes)) &&
  (i.zero.isEmpty || (match T.zero t with | some z => Z.okL i.zero (cellsOf z) | none => false)) && (!i.cmp || (T.cmp t && (match T.und t with | some (.int _) => true | _ => false))) && (!i.eqs || (T.eqOk t && (match T.und t with | some (.struct gs) => gs.toList.all (fun g => g.name != "_") | _ => false))) && decide (i.size < 1000000)
def okTab (T : Tab) (tab : List (Nat × TI)) : Bool := tab.all fun p => okTI T tab p.1 p.2
variable {T : Tab} {tab : List (Nat × TI)}
theorem lookT_ok (h : okTab T tab = true) (t : TypeId) : okTI T tab t (lookT tab t) = true ∨ lookT tab t = .no := by
  have key : ∀ l : List (Nat × TI),(∀ p ∈ l,okTI T tab p.1 p.2 = true) → okTI T tab t (lookT l t) = true ∨ lookT l t = .no := by
    intro l
    induction l with
    | nil => exact fun _ => .inr rfl
    | cons p l ih =>
      intro h
      obtain ⟨q,i⟩ := p
      unfold lookT
      cases hb : Nat.beq t q with
      | true => have := beq_nat hb; subst this; exact .inl (h _ List.mem_cons_self)
      | false => exact ih fun p hp => h p (List.mem_cons_of_mem _ hp)
  exact key tab (List.all_eq_true.1 h)
theorem zval {S : Sys U} {X : Env U} {z : Z} {v : Value} (h : z.okV v = true) : Den S X z.sv v := by
  unfold Z.okV at h
  split at h
  · simp at h; obtain ⟨rfl,rfl⟩ := h; exact .int .nil
  · rename_i b; cases b with
    | true => cases h
    | false => exact .bool .nil
  · rename_i s
    have : s.data.toList = [] := List.isEmpty_iff.1 h
    obtain ⟨⟨l⟩⟩ := s
    have : l = [] := this
    subst this
    exact .str .nil
  · exact .nilP .nil
  · exact .nilS .nil
  · exact .nilF .nil
  · exact .nilI .nil
  · exact .nilM .nil
  · cases h
theorem zvals {S : Sys U} {X : Env U} : ∀ {zs : List Z} {vs : List Value},Z.okL zs vs = true → DenL S X (mapZ zs) vs
  | [],[],_ => .nil
  | z :: zs,v :: vs,h => by
    obtain ⟨h1,h2⟩ := and_tt h
    exact DenL.cons (zval h1) (zvals h2)
  | [],_ :: _,h => by cases h
  | _ :: _,[],h => by cases h
theorem aggOk_ex {o : Option TypeDesc} {a : Bool} (h : aggOk o a = true) : ∃ d,o = some d ∧ isAggD d = a := by
  unfold aggOk at h
  split at h
  · exact ⟨_,rfl,by simpa using h⟩
  · cases h
theorem okFs_struct {k : Nat → Nat} {cells : (c : Nat) → U c → List (SV U)} {of : (c : Nat) → List (SV U) → Option (U c)} : ∀ {fs : List (Nat × Nat × TypeId)} {gs : List Field},okFs T tab fs gs = true → StructOk T (mkSys tab k cells of) fs gs
  | [],[],_ => trivial
  | (o,n,u) :: fs,f :: gs,h => by
    unfold okFs at h
    obtain ⟨h,h5⟩ := and_tt h
    obtain ⟨h,h4⟩ := and_tt h
    obtain ⟨h,h3⟩ := and_tt h
    obtain ⟨h1,h2⟩ := and_tt h
    exact ⟨of_decide_eq_true h1,of_decide_eq_true h2,of_decide_eq_true h3,aggOk_ex h4,okFs_struct h5⟩
  | [],_ :: _,h => by cases h
  | _ :: _,[],h => by cases h
theorem mkSys_ok {k : Nat → Nat} {cells : (c : Nat) → U c → List (SV U)} {of : (c : Nat) → List (SV U) → Option (U c)} (h : okTab T tab = true) (h1 : ∀ c x,(cells c x).length = k c ∧ ∀ v ∈ cells c x,one v = true) (h2 : ∀ c x,∀ v ∈ cells c x,idf v = true)
    (h3 : ∀ c l x,of c l = some x → ∀ X vs,DenL (mkSys tab k cells of) X l vs → DenL (mkSys tab k cells of) X (cells c x) vs) : SysOk T (mkSys tab k cells of) ∧ ∀ e,(mkSys tab k cells of).size e < END := by
  have td : ∀ t,okTD T tab t (lookT tab t).td = true := fun t => by
    rcases lookT_ok h t with h | h
    · unfold okTI at h
      obtain ⟨h,_⟩ := and_tt h
      obtain ⟨h,_⟩ := and_tt h
      obtain ⟨h,_⟩ := and_tt h
      obtain ⟨h,_⟩ := and_tt h
      obtain ⟨h,_⟩ := and_tt h
      exact (and_tt h).1
    · rw [h]; rfl
  have parts : ∀ t,(lookT tab t).size = 0 ∨ ((T.size t = some (lookT tab t).size) ∧ aggOk (T.und t) (lookT tab t).agg = true) := fun t => by
    rcases lookT_ok h t with h | h
    · unfold okTI at h
      obtain ⟨h,_⟩ := and_tt h
      obtain ⟨h,_⟩ := and_tt h
      obtain ⟨h,_⟩ := and_tt h
      obtain ⟨h,_⟩ := and_tt h
      obtain ⟨h,_⟩ := and_tt h
      have := (and_tt h).2
      rw [Bool.or_eq_true] at this
      rcases this with h | h
      · exact .inl (of_decide_eq_true h)
      · exact .inr ⟨of_decide_eq_true (and_tt h).1,(and_tt h).2⟩
    · rw [h]; exact .inl rfl
  refine ⟨⟨fun t e => ?_,fun t k e => ?_,fun t k e => ?_,fun t k e => ?_,fun t e => ?_,fun t e => ?_,fun t e => ?_,fun t fs e => ?_,fun t n k e => ?_,fun t n1 n2 => ?_,fun t hs => ?_,fun t hb => ?_,fun t hz => ?_,fun t hc => ?_,fun t gs hq hu => ?_,h1,h2,h3⟩,fun e => ?_⟩
  · have := td t; have e : (lookT tab t).td = .str := e; rw [e] at this; simp only [okTD] at this; split at this
    · assumption
    · cases this
  · have := td t; have e : (lookT tab t).td = .int k := e; rw [e] at this; simp only [okTD] at this; split at this
    · rename_i hu; rw [hu,of_decide_eq_true this]
    · cases this
  · have := td t; have e : (lookT tab t).td = .slice k := e; rw [e] at this; simp only [okTD] at this; split at this
    · rename_i hu; rw [hu,of_decide_eq_true this]
    · cases this
  · have := td t; have e : (lookT tab t).td = .ptr k := e; rw [e] at this; simp only [okTD] at this; split at this
    · rename_i hu; rw [hu,of_decide_eq_true this]
    · cases this
  · have := td t; have e : (lookT tab t).td = .bool := e; rw [e] at this; simp only [okTD] at this; split at this
    · assumption
    · cases this
  · have := td t; have e : (lookT tab t).td = .iface := e; rw [e] at this; simp only [okTD] at this; split at this
    · rename_i hu; exact ⟨_,hu⟩
    · cases this
  · have := td t; have e : (lookT tab t).td = .func := e; rw [e] at this; simp only [okTD] at this; split at this
    · rename_i hu; exact ⟨_,_,_,hu⟩
    · cases this
  · have := td t; have e : (lookT tab t).td = .struct fs := e; rw [e] at this; simp only [okTD] at this; split at this
    · rename_i hu; exact ⟨_,hu,okFs_struct this⟩
    · cases this
  · have := td t; have e : (lookT tab t).td = .arr n k := e; rw [e] at this; simp only [okTD] at this; split at this
    · rename_i hu; obtain ⟨g1,g2⟩ := and_tt this; rw [hu,of_decide_eq_true g1,of_decide_eq_true g2]
    · cases this
  · have := td t
    have n1 : (lookT tab t).td ≠ .none := n1
    have n2 : (lookT tab t).td ≠ .iface := n2
    cases hd : (lookT tab t).td <;> rw [hd] at this n1 n2 <;> first | exact absurd rfl n1 | exact absurd rfl n2 | skip
    all_goals
      simp only [okTD] at this
      split at this
      · rename_i hu; exact ⟨_,hu,fun m hm => by cases hm⟩
      · cases this
  · rcases parts t with h | ⟨h,h'⟩
    · exact absurd h hs
    · exact ⟨h,aggOk_ex h'⟩
  · rcases lookT_ok h t with h | h
    · unfold okTI at h
      obtain ⟨h,_⟩ := and_tt h
      obtain ⟨h,_⟩ := and_tt h
      obtain ⟨h,_⟩ := and_tt h
      obtain ⟨h,_⟩ := and_tt h
      have := (and_tt h).2
      rw [Bool.or_eq_true] at this
      rcases this with h | h
      · exact absurd (of_decide_eq_true h) hb
      · exact of_decide_eq_true h
    · exact absurd (by show (lookT tab t).bytes = 0; rw [h]; rfl) hb
  · have hz : mapZ (U := U) (lookT tab t).zero ≠ [] := hz
    rcases lookT_ok h t with h | h
    · unfold okTI at h
      obtain ⟨h,_⟩ := and_tt h
      obtain ⟨h,_⟩ := and_tt h
      obtain ⟨h,_⟩ := and_tt h
      have := (and_tt h).2
      rw [Bool.or_eq_true] at this
      rcases this with h | h
      · exact absurd (by rw [List.isEmpty_iff.1 h]; rfl) hz
      · split at h
        · rename_i z hu; exact ⟨z,hu,fun X => zvals h⟩
        · cases h
    · exact absurd (by rw [h]; rfl) hz
  · rcases lookT_ok h t with h | h
    · unfold okTI at h
      obtain ⟨h,_⟩ := and_tt h
      obtain ⟨h,_⟩ := and_tt h
      have := (and_tt h).2
      have hc : (lookT tab t).cmp = true := hc
      rw [hc] at this
      obtain ⟨g1,g2⟩ := and_tt (show (T.cmp t && _) = true from this)
      refine ⟨g1,?_⟩
      split at g2
      · rename_i hu; exact ⟨_,hu⟩
      · cases g2
    · have hc : (lookT tab t).cmp = true := hc
      rw [h] at hc; cases hc
  · have hq : (lookT tab t).eqs = true := hq
    rcases lookT_ok h t with h | h
    · unfold okTI at h
      obtain ⟨h,_⟩ := and_tt h
      have := (and_tt h).2
      rw [hq] at this
      obtain ⟨g1,g2⟩ := and_tt (show (T.eqOk t && _) = true from this)
      refine ⟨g1,fun g hg => ?_⟩
      rw [hu] at g2
      have := List.all_eq_true.1 g2 g hg
      simpa using this
    · rw [h] at hq; cases hq
  · show (lookT tab e).size < END
    have hE : 1000000 < END := by decide
    rcases lookT_ok h e with h | h
    · unfold okTI at h
      have := of_decide_eq_true (and_tt h).2
      omega
    · rw [h]; exact Nat.lt_trans (by decide) hE
end Go.Sx

