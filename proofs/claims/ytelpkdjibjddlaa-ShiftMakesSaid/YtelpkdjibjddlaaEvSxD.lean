/-
  SX, PART A: symbolic values over any family of data; what they stand for in a heap.
-/
import Derived.Test.YtelpkdjibjddlaaEvDrawn
set_option linter.unusedSimpArgs false
set_option linter.unusedVariables false
namespace Go.Sx
open Go Go.Ev Go.RowKit
inductive SV (U : Nat → Type) where
  | undef
  | skip
  | int (k : IntKind) (x : Int)
  | bool (b : Bool)
  | str (x : List UInt8)
  | nilP | nilS | nilF | nilI | nilM
  | agg (l : List (SV U))
  | tup (l : List (SV U))
  | ptr (i o : Nat)
  | sl (c : Nat) (l : List (U c))
  | ol (i : Nat)
  | osl (i lo n : Nat)
  | olp (i j o : Nat)
  | rp (c : Nat) (x : U c) (o : Nat)
  | func (f : FuncId) (a c : List (SV U))
  | yld (l : Nat)
  | iface (t : TypeId) (x : SV U)
inductive Con (U : Nat → Type) where
  | cells (fz : Bool) (e : TypeId) (vs : List (SV U))
  | list (fz ex : Bool) (e : TypeId) (c : Nat) (l : List (U c))
  | dead
  | siter (x : List UInt8) (p : Nat)
  | loop (r : Loop) (st : LoopState) (pd : Option Code)
def Con.live {U : Nat → Type} : Con U → Bool
  | .cells fz _ _ => !fz
  | .list fz _ _ _ _ => !fz
  | .dead => false
  | .loop _ _ _ => true
  | .siter _ _ => true
inductive TD where
  | int (k : IntKind) | bool | str | ptr (e : TypeId) | slice (e : TypeId) | struct (fs : List (Nat × Nat × TypeId)) | arr (n : Nat) (e : TypeId) | iface | func | map (k e : TypeId) | none
structure Sys (U : Nat → Type) where
  td : TypeId → TD
  size : TypeId → Nat
  agg : TypeId → Bool
  ty : TypeId → Nat
  bytes : TypeId → Nat
  k : Nat → Nat
  cells : (c : Nat) → U c → List (SV U)
  of : (c : Nat) → List (SV U) → Option (U c)
  zero : TypeId → List (SV U)
  cmp : TypeId → Bool
  eqs : TypeId → Bool
structure Env (U : Nat → Type) where
  wb : Nat → Prop
  ns : List (Option Nat)
  H : List (Con U)
  t : Tree
  n : Nat
variable {U : Nat → Type}
def Env.liveN (X : Env U) (N : Nat) : Prop := ∃ (i : Nat) (c : Con U),X.ns[i]? = some (some N) ∧ X.H[i]? = some c ∧ c.live = true
def Env.fb (X : Env U) (N : Nat) : Prop := X.wb N ∨ X.liveN N
def olVal (N : Option Nat) (ex : Bool) (len k : Nat) (v : Value) : Prop := match N with
  | some N => v = .slice (some ⟨N,0,none⟩) len (if ex then len else END + k)
  | none => len = 0 ∧ ∃ a,v = .slice a 0 0 ∧ (a = none ∨ ∃ N,a = some ⟨N,0,none⟩)
def olDen (S : Sys U) (X : Env U) (i : Nat) (v : Value) : Prop := match X.H[i]? with
  | some (.list _ ex _ c l) => ∃ N,X.ns[i]? = some N ∧ olVal N ex l.length (S.k c) v
  | some _ => True
  | none => False
def oslVal (N : Option Nat) (ex : Bool) (len k lo n : Nat) (v : Value) : Prop := lo + n ≤ len ∧ match N with
  | some N => v = .slice (some ⟨N,lo * k,none⟩) n (if ex then len - lo else END + k)
  | none => n = 0 ∧ ∃ a,v = .slice a 0 0 ∧ (a = none ∨ ∃ N,a = some ⟨N,0,none⟩)
def oslDen (S : Sys U) (X : Env U) (i lo n : Nat) (v : Value) : Prop := match X.H[i]? with
  | some (.list _ ex _ c l) => ∃ N,X.ns[i]? = some N ∧ oslVal N ex l.length (S.k c) lo n v
  | some _ => True
  | none => False
def olpDen (S : Sys U) (X : Env U) (i j o : Nat) (N p : Nat) : Prop := match X.H[i]? with
  | some (.list _ _ _ c _) => X.ns[i]? = some (some N) ∧ p = j * S.k c + o
  | some _ => True
  | none => False
inductive DenL (S : Sys U) (X : Env U) : List (SV U) → List Value → Prop
  | nil : DenL S X [] []
  | undef {w l vs} : DenL S X l vs → DenL S X (.undef :: l) (w :: vs)
  | skip {l vs} : DenL S X l vs → DenL S X (.skip :: l) (Go.undef :: vs)
  | int {k x l vs} : DenL S X l vs → DenL S X (.int k x :: l) (.int k x :: vs)
  | bool {b l vs} : DenL S X l vs → DenL S X (.bool b :: l) (.bool b :: vs)
  | str {x l vs} : DenL S X l vs → DenL S X (.str x :: l) (.string ⟨⟨x⟩⟩ :: vs)
  | nilP {l vs} : DenL S X l vs → DenL S X (.nilP :: l) (.pointer none :: vs)
  | nilS {l vs} : DenL S X l vs → DenL S X (.nilS :: l) (.slice none 0 0 :: vs)
  | nilF {l vs} : DenL S X l vs → DenL S X (.nilF :: l) (.nilFunc :: vs)
  | nilI {l vs} : DenL S X l vs → DenL S X (.nilI :: l) (.nilIface :: vs)
  | nilM {l vs} : DenL S X l vs → DenL S X (.nilM :: l) (.map none :: vs)
  | agg {a as l vs} : DenL S X a as → DenL S X l vs → DenL S X (.agg a :: l) (.agg ⟨as⟩ :: vs)
  | tup {a as l vs} : DenL S X a as → DenL S X l vs → DenL S X (.tup a :: l) (.tuple ⟨as⟩ :: vs)
  | ptr {i o N l vs} : X.ns[i]? = some (some N) → DenL S X l vs → DenL S X (.ptr i o :: l) (.pointer (some ⟨N,o,none⟩) :: vs)
  | sl {c : Nat} {d : List (U c)} {a : Option Addr} {cap N o : Nat} {ws : List Value} {e hi : Nat} {cs : Nat → List Value} {l vs} : ((a = none ∨ ∃ M p,a = some ⟨M,p,none⟩) ∧ (d.length ≤ cap ∧ cap < END ∨ cap = END + S.k c ∨ d = [] ∧ cap = END + END)) → (d ≠ [] → a = some ⟨N,o,none⟩ ∧ X.t.get N = some (.cells ws e hi) ∧ N < X.n ∧ ¬ X.fb N) → (∀ j x,d[j]? = some x → Ev.slice ws (o + j * S.k c) (S.k c) = some (cs j)) →
      (∀ j x,d[j]? = some x → DenL S X (S.cells c x) (cs j)) → d.length < END → DenL S X l vs → DenL S X (.sl c d :: l) (.slice a d.length cap :: vs)
  | ol {i : Nat} {a : Option Addr} {m cap : Nat} {l vs} : olDen S X i (.slice a m cap) → DenL S X l vs → DenL S X (.ol i :: l) (.slice a m cap :: vs)
  | osl {i lo n : Nat} {a : Option Addr} {m cap : Nat} {l vs} : oslDen S X i lo n (.slice a m cap) → DenL S X l vs → DenL S X (.osl i lo n :: l) (.slice a m cap :: vs)
  | olp {i j o N p : Nat} {l vs} : olpDen S X i j o N p → DenL S X l vs → DenL S X (.olp i j o :: l) (.pointer (some ⟨N,p,none⟩) :: vs)
  | rp {c : Nat} {x : U c} {p N b : Nat} {ws : List Value} {e hi : Nat} {cs : List Value} {l vs} : X.t.get N = some (.cells ws e hi) → N < X.n → ¬ X.fb N → Ev.slice ws b (S.k c) = some cs → DenL S X (S.cells c x) cs → DenL S X l vs → DenL S X (.rp c x p :: l) (.pointer (some ⟨N,b + p,none⟩) :: vs)
  | func {f a c as cs l vs} : DenL S X a as → DenL S X c cs → DenL S X l vs → DenL S X (.func f a c :: l) (.func (.func f) ⟨as⟩ ⟨cs⟩ :: vs)
  | yld {i N l vs} : X.ns[i]? = some (some N) → DenL S X l vs → DenL S X (.yld i :: l) (.func (.yield N) #[] #[] :: vs)
  | iface {t x w l vs} : DenL S X [x] [w] → DenL S X l vs → DenL S X (.iface t x :: l) (.iface t w :: vs)
abbrev Den (S : Sys U) (X : Env U) (v : SV U) (w : Value) : Prop := DenL S X [v] [w]
def ConOk (S : Sys U) (X : Env U) (N : Option Nat) : Con U → Prop
  | .cells fz e vs => ∃ M ws,N = some M ∧ X.t.get M = some (.cells ws e 0) ∧ DenL S X vs ws ∧ M < X.n ∧ (fz = true → ¬ X.fb M)
  | .list fz ex e c l => l.length < END ∧ match N with
    | none => l = [] ∧ ex = false
    | some M => ∃ ws,∃ cs : Nat → List Value,X.t.get M = some (.cells ws e 0) ∧ ws.length = l.length * S.k c ∧ (∀ j x,l[j]? = some x → Ev.slice ws (j * S.k c) (S.k c) = some (cs j)) ∧ (∀ j x,l[j]? = some x → DenL S X (S.cells c x) (cs j)) ∧ M < X.n ∧ (fz = true → ¬ X.fb M)
  | .dead => True
  | .loop r st pd => ∃ M,N = some M ∧ X.t.get M = some (.obj (.loop { r with state := st,pending := pd })) ∧ M < X.n
  | .siter x p => ∃ M,N = some M ∧ X.t.get M = some (.obj (.stringIter ⟨⟨x⟩⟩ p)) ∧ M < X.n
structure HRel (S : Sys U) (X : Env U) : Prop where
  len : X.ns.length = X.H.length
  ok : ∀ (i : Nat) c N,X.H[i]? = some c → X.ns[i]? = some N → ConOk S X N c
  inj : ∀ (i j N : Nat),X.ns[i]? = some (some N) → X.ns[j]? = some (some N) → i = j
  lt : ∀ (i N : Nat),X.ns[i]? = some (some N) → N < X.n ∧ ¬ X.wb N
  wbl : ∀ N,X.wb N → N < X.n
structure Later (X X' : Env U) : Prop where
  ns : ∀ (i : Nat) N,X.ns[i]? = some N → X'.ns[i]? = some N
  H : ∀ (i : Nat) c,X.H[i]? = some c → ∃ c',X'.H[i]? = some c' ∧ ∀ fz ex e k l,c' = Con.list fz ex e k l → ∃ fz' l',c = Con.list fz' ex e k l' ∧ l'.length = l.length
  mem : ∀ N,N < X.n → ¬ X.fb N → X'.t.get N = X.t.get N ∧ ¬ X'.fb N
  n : X.n ≤ X'.n
theorem Later.refl (X : Env U) : Later X X := ⟨fun _ _ h => h,fun _ c h => ⟨c,h,fun fz ex e k l e' => ⟨fz,l,e',rfl⟩⟩,fun _ _ h => ⟨rfl,h⟩,Nat.le_refl _⟩
theorem Later.trans {X Y Z : Env U} (h : Later X Y) (g : Later Y Z) : Later X Z := by
  refine ⟨fun i N e => g.ns i N (h.ns i N e),fun i c e => ?_,fun N hN hf => ?_,Nat.le_trans h.n g.n⟩
  · obtain ⟨c1,e1,f1⟩ := h.H i c e
    obtain ⟨c2,e2,f2⟩ := g.H i c1 e1
    refine ⟨c2,e2,fun fz ex e k l hc => ?_⟩
    obtain ⟨fz1,l1,hc1,hl1⟩ := f2 fz ex e k l hc
    obtain ⟨fz2,l2,hc2,hl2⟩ := f1 fz1 ex e k l1 hc1
    exact ⟨fz2,l2,hc2,hl2.trans hl1⟩
  · obtain ⟨a,b⟩ := h.mem N hN hf
    obtain ⟨c,d⟩ := g.mem N (Nat.lt_of_lt_of_le hN h.n) b
    exact ⟨c.trans a,d⟩
theorem DenL.later {S : Sys U} {X X' : Env U} (h : Later X X') {l : List (SV U)} {vs : List Value} (d : DenL S X l vs) : DenL S X' l vs := by
  induction d with
  | nil => exact .nil
  | undef _ ih => exact .undef ih
  | skip _ ih => exact .skip ih
  | int _ ih => exact .int ih
  | bool _ ih => exact .bool ih
  | str _ ih => exact .str ih
  | nilP _ ih => exact .nilP ih
  | nilS _ ih => exact .nilS ih
  | nilF _ ih => exact .nilF ih
  | nilI _ ih => exact .nilI ih
  | nilM _ ih => exact .nilM ih
  | agg _ _ i1 i2 => exact .agg i1 i2
  | tup _ _ i1 i2 => exact .tup i1 i2
  | ptr e _ ih => exact .ptr (h.ns _ _ e) ih
  | sl h9 ha hx _ hs _ i1 i2 => exact .sl h9 (fun hd => by obtain ⟨a,b,c,d⟩ := ha hd; exact ⟨a,(h.mem _ c d).1.trans b,Nat.lt_of_lt_of_le c h.n,(h.mem _ c d).2⟩) hx i1 hs i2
  | ol e _ ih =>
    refine .ol ?_ ih
    unfold olDen at e ⊢
    split at e
    · rename_i fz ex e' c l hH
      obtain ⟨c',e1,f1⟩ := h.H _ _ hH
      rw [e1]
      split
      · rename_i hh
        cases hh
        obtain ⟨fz',l',hc,hl⟩ := f1 _ _ _ _ _ rfl
        cases hc
        obtain ⟨N,g1,g2⟩ := e
        exact ⟨N,h.ns _ _ g1,hl ▸ g2⟩
      · trivial
      · rename_i hh; cases hh
    · rename_i hne hH
      obtain ⟨c',e1,f1⟩ := h.H _ _ hH
      rw [e1]
      split
      · rename_i hh
        cases hh
        obtain ⟨fz',l',hc,hl⟩ := f1 _ _ _ _ _ rfl
        exact (hne _ _ _ _ _ hc).elim
      · trivial
      · rename_i hh; cases hh
    · exact e.elim
  | osl e _ ih =>
    refine .osl ?_ ih
    unfold oslDen at e ⊢
    split at e
    · rename_i fz ex e' c l hH
      obtain ⟨c',e1,f1⟩ := h.H _ _ hH
      rw [e1]
      split
      · rename_i hh
        cases hh
        obtain ⟨fz',l',hc,hl⟩ := f1 _ _ _ _ _ rfl
        cases hc
        obtain ⟨N,g1,g2⟩ := e
        exact ⟨N,h.ns _ _ g1,hl ▸ g2⟩
      · trivial
      · rename_i hh; cases hh
    · rename_i hne hH
      obtain ⟨c',e1,f1⟩ := h.H _ _ hH
      rw [e1]
      split
      · rename_i hh
        cases hh
        obtain ⟨fz',l',hc,hl⟩ := f1 _ _ _ _ _ rfl
        exact (hne _ _ _ _ _ hc).elim
      · trivial
      · rename_i hh; cases hh
    · exact e.elim
  | olp e _ ih =>
    refine .olp ?_ ih
    unfold olpDen at e ⊢
    split at e
    · rename_i hH
      obtain ⟨c',e1,f1⟩ := h.H _ _ hH
      rw [e1]
      split
      · rename_i hh
        cases hh
        obtain ⟨fz',l',hc,hl⟩ := f1 _ _ _ _ _ rfl
        cases hc
        obtain ⟨g1,g2⟩ := e
        exact ⟨h.ns _ _ g1,g2⟩
      · trivial
      · rename_i hh; cases hh
    · rename_i hne hH
      obtain ⟨c',e1,f1⟩ := h.H _ _ hH
      rw [e1]
      split
      · rename_i hh
        cases hh
        obtain ⟨fz',l',hc,hl⟩ := f1 _ _ _ _ _ rfl
        exact (hne _ _ _ _ _ hc).elim
      · trivial
      · rename_i hh; cases hh
    · exact e.elim
  | rp h2 h3 h4 h5 _ _ i1 i2 => exact .rp ((h.mem _ h3 h4).1.trans h2) (Nat.lt_of_lt_of_le h3 h.n) (h.mem _ h3 h4).2 h5 i1 i2
  | func _ _ _ i1 i2 i3 => exact .func i1 i2 i3
  | yld e _ ih => exact .yld (h.ns _ _ e) ih
  | iface _ _ i1 i2 => exact .iface i1 i2
end Go.Sx

/-
  SX, PART B: the symbolic walk: what is to be shown for a piece of code, by its text alone.
-/
namespace Go.Sx
open Go Go.Ev Go.RowKit
variable {U : Nat → Type}
abbrev Frm (U : Nat → Type) := List (Nat × SV U)
abbrev Hp (U : Nat → Type) := List (Con U)
def get : Frm U → Nat → SV U
  | [],_ => .undef
  | (m,v) :: l,n => bif Nat.beq n m then v else get l n
def nth : List (SV U) → Nat → SV U
  | [],_ => .undef
  | a :: _,0 => a
  | _ :: l,n + 1 => nth l n
def dropL : List (SV U) → Nat → List (SV U)
  | l,0 => l
  | [],_ => []
  | _ :: l,n + 1 => dropL l n
def takeL : List (SV U) → Nat → List (SV U)
  | _,0 => []
  | [],_ => []
  | a :: l,n + 1 => a :: takeL l n
def putL : List (SV U) → Nat → List (SV U) → List (SV U)
  | l,_,[] => l
  | [],_,_ => []
  | _ :: l,0,v :: vs => v :: putL l 0 vs
  | x :: l,o + 1,vs => x :: putL l o vs
def lenL : List (SV U) → Nat
  | [] => 0
  | _ :: l => Nat.succ (lenL l)
def conAt : Hp U → Nat → Con U
  | [],_ => .dead
  | a :: _,0 => a
  | _ :: l,n + 1 => conAt l n
def setC : Hp U → Nat → Con U → Hp U
  | [],_,_ => []
  | _ :: l,0,c => c :: l
  | a :: l,n + 1,c => a :: setC l n c
def lenH : Hp U → Nat
  | [] => 0
  | _ :: l => Nat.succ (lenH l)
def snoc : Hp U → Con U → Hp U
  | [],c => [c]
  | a :: l,c => a :: snoc l c
def ofVal1 : Value → SV U
  | .int k x => .int k x
  | .bool b => .bool b
  | .string s => .str s.data.toList
  | .pointer none => .nilP
  | .slice none 0 0 => .nilS
  | .nilFunc => .nilF
  | .nilIface => .nilI
  | .map none => .nilM
  | _ => .undef
def ofVal : Value → SV U
  | .agg cs => .agg (cs.toList.map ofVal1)
  | .tuple cs => .tup (cs.toList.map ofVal1)
  | .iface t v => .iface t (ofVal1 v)
  | v => ofVal1 v
def evo (F : Frm U) : Operand → SV U
  | .tmp t => get F t
  | .const v => ofVal v
  | .func f => .func f [] []
  | .global _ => .undef
def forceI (n : Nat) : (Nat → Prop) → Prop := Nat.rec (motive := fun _ => (Nat → Prop) → Prop) (fun K => K 0) (fun _ ih K => ih fun m => K (Nat.succ m)) n
theorem forceI_eq : ∀ (n : Nat) (K : Nat → Prop),forceI n K = K n
  | 0,_ => rfl
  | n + 1,K => forceI_eq n fun m => K (Nat.succ m)
def forceL (R : SV U → (SV U → Prop) → Prop) : List (SV U) → (List (SV U) → Prop) → Prop
  | [],K => K []
  | v :: l,K => R v fun v => forceL R l fun l => K (v :: l)
def force1 (v : SV U) (K : SV U → Prop) : Prop := match v with
  | .osl i a n => forceI i fun i => K (.osl i a n)
  | .undef => K .undef | .skip => K .skip | .int k x => K (.int k x) | .bool b => K (.bool b) | .str x => K (.str x) | .nilP => K .nilP | .nilS => K .nilS | .nilF => K .nilF | .nilI => K .nilI | .nilM => K .nilM
  | .agg l => K (.agg l) | .tup l => K (.tup l) | .ptr i o => forceI i fun i => K (.ptr i o) | .sl c l => K (.sl c l) | .ol i => forceI i fun i => K (.ol i) | .olp i j o => forceI i fun i => K (.olp i j o) | .rp c x o => K (.rp c x o)
  | .func f a c => K (.func f a c) | .yld l => forceI l fun l => K (.yld l) | .iface t x => K (.iface t x)
def force2 (v : SV U) (K : SV U → Prop) : Prop := match v with
  | .osl i a n => forceI i fun i => K (.osl i a n)
  | .undef => K .undef | .skip => K .skip | .int k x => K (.int k x) | .bool b => K (.bool b) | .str x => K (.str x) | .nilP => K .nilP | .nilS => K .nilS | .nilF => K .nilF | .nilI => K .nilI | .nilM => K .nilM
  | .agg l => forceL force1 l fun l => K (.agg l) | .tup l => forceL force1 l fun l => K (.tup l) | .ptr i o => forceI i fun i => K (.ptr i o) | .sl c l => K (.sl c l) | .ol i => forceI i fun i => K (.ol i) | .olp i j o => forceI i fun i => K (.olp i j o) | .rp c x o => K (.rp c x o)
  | .func f a c => forceL force1 a fun a => forceL force1 c fun c => K (.func f a c) | .yld l => forceI l fun l => K (.yld l) | .iface t x => force1 x fun x => K (.iface t x)
def force (v : SV U) (K : SV U → Prop) : Prop := match v with
  | .osl i a n => forceI i fun i => K (.osl i a n)
  | .undef => K .undef | .skip => K .skip | .int k x => K (.int k x) | .bool b => K (.bool b) | .str x => K (.str x) | .nilP => K .nilP | .nilS => K .nilS | .nilF => K .nilF | .nilI => K .nilI | .nilM => K .nilM
  | .agg l => forceL force2 l fun l => K (.agg l) | .tup l => forceL force2 l fun l => K (.tup l) | .ptr i o => forceI i fun i => K (.ptr i o) | .sl c l => K (.sl c l) | .ol i => forceI i fun i => K (.ol i) | .olp i j o => forceI i fun i => K (.olp i j o) | .rp c x o => K (.rp c x o)
  | .func f a c => forceL force2 a fun a => forceL force2 c fun c => K (.func f a c) | .yld l => forceI l fun l => K (.yld l) | .iface t x => force2 x fun x => K (.iface t x)
def forceC (c : Con U) (K : Con U → Prop) : Prop := match c with
  | .cells fz e vs => forceL force vs fun vs => K (.cells fz e vs)
  | .list fz ex e c l => K (.list fz ex e c l)
  | .loop r st pd => K (.loop r st pd)
  | .siter x p => K (.siter x p)
  | .dead => K .dead
def forceH : Hp U → (Hp U → Prop) → Prop
  | [],K => K []
  | c :: H,K => forceC c fun c => forceH H fun H => K (c :: H)
theorem forceL_eq {R : SV U → (SV U → Prop) → Prop} (hR : ∀ v K,R v K = K v) : ∀ (l : List (SV U)) (K : List (SV U) → Prop),forceL R l K = K l
  | [],_ => rfl
  | v :: l,K => by simp only [forceL,hR,forceL_eq hR l]
theorem force1_eq (v : SV U) (K : SV U → Prop) : force1 v K = K v := by cases v <;> simp only [force1,forceI_eq]
theorem force2_eq (v : SV U) (K : SV U → Prop) : force2 v K = K v := by cases v <;> simp only [force2,forceL_eq force1_eq,force1_eq,forceI_eq]
theorem force_eq (v : SV U) (K : SV U → Prop) : force v K = K v := by cases v <;> simp only [force,forceL_eq force2_eq,force2_eq,forceI_eq]
theorem forceC_eq (c : Con U) (K : Con U → Prop) : forceC c K = K c := by cases c <;> simp only [forceC,forceL_eq force_eq]
theorem forceH_eq : ∀ (H : Hp U) (K : Hp U → Prop),forceH H K = K H
  | [],_ => rfl
  | c :: H,K => by simp only [forceH,forceC_eq,forceH_eq H]
@[irreducible] def Chk (p : Prop) : Prop := p
theorem Chk.out {p : Prop} (h : Chk p) : p := by unfold Chk at h; exact h
theorem Chk.mk {p : Prop} (h : p) : Chk p := by unfold Chk; exact h
def wr (k : IntKind) (x : Int) : Int := k.wrap x
def arith (k : IntKind) (x : Int) (K : SV U → Prop) : Prop := match k with
  | .i64 => ∀ z : Int,z = wr .i64 x → (-9223372036854775808 ≤ x ∧ x < 9223372036854775808 → z = x) → K (.int .i64 z)
  | k => K (.int k (wr k x))
def binI (k : IntKind) (a b : Int) (K : SV U → Prop) : BinOp → Prop
  | .add => arith k (a + b) K
  | .sub => arith k (a - b) K
  | .mul => arith k (a * b) K
  | .quo => Chk (b ≠ 0) ∧ arith k (a.tdiv b) K
  | .rem => Chk (b ≠ 0) ∧ K (.int k (a.tmod b))
  | .eql => ∀ q,(q = true ↔ a = b) → K (.bool q)
  | .neq => ∀ q,(q = true ↔ ¬ a = b) → K (.bool q)
  | .lss => ∀ q,(q = true ↔ a < b) → K (.bool q)
  | .leq => ∀ q,(q = true ↔ a ≤ b) → K (.bool q)
  | .gtr => ∀ q,(q = true ↔ b < a) → K (.bool q)
  | .geq => ∀ q,(q = true ↔ b ≤ a) → K (.bool q)
  | _ => False
def binS (a b : List UInt8) (K : SV U → Prop) : BinOp → Prop
  | .add => Chk (a.length + b.length ≤ 9223372036854775807) ∧ K (.str (a ++ b))
  | .eql => ∀ q,(q = true ↔ a = b) → K (.bool q)
  | .neq => ∀ q,(q = true ↔ ¬ a = b) → K (.bool q)
  | _ => False
def aggEq (S : Sys U) (xs ys : List (SV U)) : List (Nat × Nat × TypeId) → (Prop → Prop) → Prop
  | [],K => K True
  | (o,_,u) :: fs,K => bif Nat.blt o (lenL xs) && Nat.blt o (lenL ys) then match S.td u,nth xs o,nth ys o with
    | .int _,.int k a,.int k' b => bif Nat.beq k.ctorIdx k'.ctorIdx then aggEq S xs ys fs fun P => K (a = b ∧ P) else False
    | .str,.str a,.str b => aggEq S xs ys fs fun P => K (a = b ∧ P)
    | .bool,.bool a,.bool b => aggEq S xs ys fs fun P => K (a = b ∧ P)
    | _,_,_ => False
   else False
def eqK (S : Sys U) (d : TD) (es : Bool) (c : Bool) (x y : SV U) (K : Bool → Prop) : Prop := match d,x,y with
  | .bool,.bool a,.bool b => ∀ q,(q = true ↔ a = b) → K q
  | .ptr _,.nilP,.nilP => K true
  | .ptr _,.nilP,.ptr _ _ => K false
  | .ptr _,.ptr _ _,.nilP => K false
  | .ptr _,.nilP,.rp _ _ _ => K false
  | .ptr _,.rp _ _ _,.nilP => K false
  | .iface,.nilI,.nilI => bif c then K true else False
  | .iface,.nilI,.iface _ _ => K false
  | .iface,.iface _ _,.nilI => K false
  | .iface,.iface t (.int k a),.iface u (.int k' b) => bif Nat.beq t u then (bif S.cmp t && Nat.beq k.ctorIdx k'.ctorIdx then (∀ q,(q = true ↔ a = b) → K q) else False) else K false
  | .func,.nilF,.nilF => K true
  | .func,.nilF,.func _ _ _ => K false
  | .func,.func _ _ _,.nilF => K false
  | .slice _,.sl _ l,.nilS => ∀ b,(b = true → l = []) → K b
  | .slice _,.nilS,.nilS => K true
  | .struct fs,.agg xs,.agg ys => bif !es then False else aggEq S xs ys fs fun P => ∀ q,(q = true ↔ P) → K q
  | _,_,_ => False
def isEq : BinOp → Option Bool
  | .eql => some true
  | .neq => some false
  | _ => none
def bin (S : Sys U) (d : TD) (es : Bool) (op : BinOp) (c : Bool) (x y : SV U) (K : SV U → Prop) : Prop := match x,y with
  | .int k a,.int k' b => bif Nat.beq k.ctorIdx k'.ctorIdx then binI k a b K op else False
  | .str a,.str b => binS a b K op
  | x,y => match isEq op with
    | some true => eqK S d es c x y fun b => K (.bool b)
    | some false => eqK S d es c x y fun b => (b = true → K (.bool false)) ∧ (b = false → K (.bool true))
    | none => False
def fieldOf (fs : List (Nat × Nat × TypeId)) (i : Nat) (K : Nat → Nat → TypeId → Prop) : Prop := match fs,i with
  | [],_ => False
  | (o,n,t) :: _,0 => K o n t
  | _ :: fs,i + 1 => fieldOf fs i K
def sliceStr (s : List UInt8) (lo hi : Option (SV U)) (K : SV U → Prop) : Prop := match lo,hi with
  | none,none => K (.str s)
  | some (.int _ a),none => Chk (0 ≤ a ∧ a ≤ s.length) ∧ K (.str (s.drop a.toNat))
  | none,some (.int _ b) => Chk (0 ≤ b ∧ b ≤ s.length) ∧ K (.str (s.take b.toNat))
  | some (.int _ a),some (.int _ b) => Chk (0 ≤ a ∧ a ≤ b ∧ b ≤ s.length) ∧ K (.str ((s.drop a.toNat).take (b.toNat - a.toNat)))
  | _,_ => False
def optS (F : Frm U) : Option Operand → Option (SV U)
  | some x => some (evo F x)
  | none => none
def cellsSV : SV U → List (SV U)
  | .agg l => l
  | v => [v]
def fillS (fs : List (Nat × Nat × TypeId)) (F : Frm U) : List (Nat × Operand) → List (SV U) → (List (SV U) → Prop) → Prop
  | [],l,K => K l
  | (i,x) :: ps,l,K => fieldOf fs i fun o n _ => match evo F x with
    | .undef => False
    | v => bif Nat.beq (lenL (cellsSV v)) n && Nat.ble (o + n) (lenL l) then fillS fs F ps (putL l o (cellsSV v)) K else False
def arrFs (sz : Nat) : Nat → Nat → List (Nat × Nat × TypeId)
  | 0,_ => []
  | n + 1,o => (o,sz,0) :: arrFs sz n (o + sz)
def lenSV (H : Hp U) (v : SV U) (K : Nat → Prop) : Prop := match v with
  | .nilS => K 0
  | .sl _ l => l.length < 4611686018427387904 → K l.length
  | .ol i => match conAt H i with
    | .list _ _ _ _ l => l.length < 4611686018427387904 → K l.length
    | _ => False
  | .osl i _ n => match conAt H i with
    | .list _ _ _ _ _ => n < 4611686018427387904 → K n
    | _ => False
  | _ => False
def ownSlice (S : Sys U) (e : TypeId) (c q base n : Nat) (lo hi : Option (SV U)) (K : SV U → Prop) : Prop := bif Nat.beq (S.size e) (S.k c) && !Nat.beq (S.size e) 0 then (match lo with
  | none => (match hi with
    | some (.int _ b) => Chk (0 ≤ b ∧ b ≤ n) ∧ K (.osl q base b.toNat)
    | some _ => False
    | none => K (.osl q base n))
  | some (.int _ a) => (match hi with
    | some (.int _ b) => Chk (0 ≤ a ∧ a < b ∧ b ≤ n) ∧ K (.osl q (base + a.toNat) (b.toNat - a.toNat))
    | some _ => False
    | none => Chk (0 ≤ a ∧ a < n) ∧ K (.osl q (base + a.toNat) (n - a.toNat)))
  | some _ => False) else False
def mm (mx : Bool) (a b : Int) : Int := bif mx then (if a < b then b else a) else (if b < a then b else a)
def minmaxS (mx : Bool) (k : IntKind) (x : Int) : List (SV U) → (SV U → Prop) → Prop
  | [],K => K (.int k x)
  | .int _ y :: r,K => minmaxS mx k (mm mx x y) r K
  | _,_ => False
def pureStep (S : Sys U) (F : Frm U) (H : Hp U) (o : Op) (K : SV U → Prop) : Prop := match o with
  | .move x => K (evo F x)
  | .assign x => K (evo F x)
  | .pick c a b => match evo F c with
    | .bool p => (p = true → K (evo F a)) ∧ (p = false → K (evo F b))
    | _ => False
  | .binOp op t x y _ => bin S (S.td t) (S.eqs t) op (isConst x || isConst y) (evo F x) (evo F y) K
  | .unOp op _ x => match op,evo F x with
    | .not,.bool b => (b = true → K (.bool false)) ∧ (b = false → K (.bool true))
    | .neg,.int k a => arith k (0 - a) K
    | _,_ => False
  | .build t parts => match S.td t with
    | .struct fs => bif Nat.beq (lenL (S.zero t)) 0 then False else fillS fs F parts.toList (S.zero t) fun l => K (.agg l)
    | .arr n e => bif Nat.beq (lenL (S.zero t)) 0 || Nat.beq (S.size e) 0 then False else fillS (arrFs (S.size e) n 0) F parts.toList (S.zero t) fun l => K (.agg l)
    | _ => False
  | .nilCheck x => match evo F x with
    | .ptr i o => K (.ptr i o)
    | .rp c x o => K (.rp c x o)
    | .olp i j o => K (.olp i j o)
    | .func f a c => K (.func f a c)
    | .iface t x => K (.iface t x)
    | .yld l => K (.yld l)
    | _ => False
  | .makeInterface t x => match S.td t with
    | .iface => False
    | .none => False
    | _ => K (.iface t (evo F x))
  | .makeFunc (.func g) a c => K (.func g (a.toList.map (evo F)) (c.toList.map (evo F)))
  | .slice t x lo hi mx => match mx with
   | some _ => False
   | none => match S.td t,evo F x with
    | .slice e,.sl c l => (match optS F lo with
      | none => (match optS F hi with
        | some (.int _ b) => bif Nat.beq (S.size e) (S.k c) && !Nat.beq (S.size e) 0 then Chk (0 ≤ b ∧ b ≤ l.length ∧ 0 < l.length) ∧ K (.sl c (l.take b.toNat)) else False
        | _ => False)
      | some (.int _ a) => (match optS F hi with
        | some (.int _ b) => bif Nat.beq (S.size e) (S.k c) && !Nat.beq (S.size e) 0 then Chk (0 ≤ a ∧ a ≤ b ∧ b ≤ l.length ∧ 0 < l.length) ∧ K (.sl c ((l.drop a.toNat).take (b.toNat - a.toNat))) else False
        | some _ => False
        | none => bif Nat.beq (S.size e) (S.k c) && !Nat.beq (S.size e) 0 then Chk (0 ≤ a ∧ a ≤ l.length ∧ 0 < l.length) ∧ K (.sl c (l.drop a.toNat)) else False)
      | some _ => False)
    | .slice e,.ol q => (match conAt H q with
      | .list _ _ _ c l => ownSlice S e c q 0 l.length (optS F lo) (optS F hi) K
      | _ => False)
    | .slice e,.osl q base n => (match conAt H q with
      | .list _ _ _ c _ => ownSlice S e c q base n (optS F lo) (optS F hi) K
      | _ => False)
    | .str,.str s => match optS F lo with
      | some (.int k a) => match optS F hi with
        | some (.int k' b) => sliceStr s (some (.int k a)) (some (.int k' b)) K
        | some _ => False
        | none => sliceStr s (some (.int k a)) none K
      | some _ => False
      | none => match optS F hi with
        | some (.int k' b) => sliceStr s none (some (.int k' b)) K
        | some _ => False
        | none => K (.str s)
    | _,_ => False
  | .fieldAddr t x i => match S.td t with
    | .struct fs => fieldOf fs i fun o n _ => bif Nat.beq n 0 then False else match evo F x with
      | .ptr j p => K (.ptr j (p + o))
      | .rp c y p => K (.rp c y (p + o))
      | .olp j q p => K (.olp j q (p + o))
      | _ => False
    | _ => False
  | .field t x i => match S.td t with
    | .struct fs => fieldOf fs i fun o n u => match evo F x with
      | .agg l => bif Nat.ble (o + n) (lenL l) && !Nat.beq n 0 then (bif S.agg u then K (.agg (takeL (dropL l o) n)) else K (nth l o)) else False
      | _ => False
    | _ => False
  | .indexAddr t x i => match S.td t,evo F i with
    | .slice e,.int _ j => match evo F x with
      | .sl c l => bif Nat.beq (S.size e) (S.k c) && !Nat.beq (S.k c) 0 then Chk (0 ≤ j ∧ j < l.length) ∧ ∀ y,l[j.toNat]? = some y → K (.rp c y 0) else False
      | .ol q => match conAt H q with
        | .list _ _ _ c l => bif Nat.beq (S.size e) (S.k c) && !Nat.beq (S.k c) 0 then Chk (0 ≤ j ∧ j < l.length) ∧ K (.olp q j.toNat 0) else False
        | _ => False
      | .osl q base n => match conAt H q with
        | .list _ _ _ c _ => bif Nat.beq (S.size e) (S.k c) && !Nat.beq (S.k c) 0 then Chk (0 ≤ j ∧ j < n) ∧ K (.olp q (base + j.toNat) 0) else False
        | _ => False
      | _ => False
    | .arr n e,.int _ j => bif Nat.beq (S.size e) 0 then False else match evo F x with
      | .ptr q p => Chk (0 ≤ j ∧ j < n) ∧ K (.ptr q (p + j.toNat * S.size e))
      | .rp c y p => Chk (0 ≤ j ∧ j < n) ∧ K (.rp c y (p + j.toNat * S.size e))
      | .olp q u p => Chk (0 ≤ j ∧ j < n) ∧ K (.olp q u (p + j.toNat * S.size e))
      | _ => False
    | _,_ => False
  | .index t x i => match S.td t,evo F x,evo F i with
    | .str,.str s,.int _ j => Chk (0 ≤ j ∧ j < s.length) ∧ ∀ y,s[j.toNat]? = some y → K (.int .u8 y.toNat)
    | .arr n e,.agg l,.int _ j => bif Nat.beq (S.size e) 0 then False else Chk (0 ≤ j ∧ j < n) ∧ (bif Nat.ble (j.toNat * S.size e + S.size e) (lenL l) then (bif S.agg e then K (.agg (takeL (dropL l (j.toNat * S.size e)) (S.size e))) else K (nth l (j.toNat * S.size e))) else False)
    | _,_,_ => False
  | .typeAssert x _ t ok => match S.td t with
    | .iface => False
    | .none => False
    | _ => match evo F x with
      | .iface u v => bif Nat.beq u t then K (bif ok then .tup [v,.bool true] else v) else False
      | _ => False
  | .extract t i => match evo F t with
    | .tup l => bif Nat.ble (i + 1) (lenL l) then K (nth l i) else False
    | _ => False
  | .call ⟨.builtin .len,a,ts⟩ => match a.toList,ts.toList with
    | [x],[t] => match S.td t with
      | .str => match evo F x with
        | .str x => K (.int .i64 x.length)
        | _ => False
      | .slice _ => lenSV H (evo F x) fun n => K (.int .i64 n)
      | _ => False
    | _,_ => False
  | .call ⟨.builtin .min,a,_⟩ => match a.toList.map (evo F) with
    | .int k x :: r => minmaxS false k x r K
    | _ => False
  | .call ⟨.builtin .max,a,_⟩ => match a.toList.map (evo F) with
    | .int k x :: r => minmaxS true k x r K
    | _ => False
  | _ => False
end Go.Sx

/-
  SX, PART C: operations without memory do as told.
-/
namespace Go.Sx
open Go Go.Ev Go.RowKit
variable {U : Nat → Type}
def one : SV U → Bool
  | .undef => false
  | .skip => false
  | .agg _ => false
  | .tup _ => false
  | _ => true
def idf1 : SV U → Bool
  | .int _ _ | .bool _ | .str _ | .nilP | .nilS | .nilF | .nilI | .nilM | .sl _ _ | .rp _ _ _ => true
  | _ => false
def idf : SV U → Bool
  | .iface _ x => idf1 x
  | v => idf1 v
def StructOk (T : Tab) (S : Sys U) : List (Nat × Nat × TypeId) → List Field → Prop
  | [],[] => True
  | (o,n,u) :: fs,f :: gs => f.offset = o ∧ f.type = u ∧ T.size u = some n ∧ (∃ d,T.und u = some d ∧ isAggD d = S.agg u) ∧ StructOk T S fs gs
  | _,_ => False
structure SysOk (T : Tab) (S : Sys U) : Prop where
  str : ∀ t,S.td t = .str → T.und t = some .string
  int : ∀ t k,S.td t = .int k → T.und t = some (.int k)
  slice : ∀ t e,S.td t = .slice e → T.und t = some (.slice e)
  ptr : ∀ t e,S.td t = .ptr e → T.und t = some (.pointer e)
  bool : ∀ t,S.td t = .bool → T.und t = some .bool
  ifc : ∀ t,S.td t = .iface → ∃ m,T.und t = some (.interface m)
  fn : ∀ t,S.td t = .func → ∃ a b c,T.und t = some (.func a b c)
  struct : ∀ t fs,S.td t = .struct fs → ∃ gs,T.und t = some (.struct gs) ∧ StructOk T S fs gs.toList
  arr : ∀ t n e,S.td t = .arr n e → T.und t = some (.array n e)
  other : ∀ t,S.td t ≠ .none → S.td t ≠ .iface → ∃ d,T.und t = some d ∧ ∀ m,d ≠ .interface m
  size : ∀ t,S.size t ≠ 0 → T.size t = some (S.size t) ∧ ∃ d,T.und t = some d ∧ isAggD d = S.agg t
  bytes : ∀ t,S.bytes t ≠ 0 → T.bytes t = some (S.bytes t)
  zero : ∀ t,S.zero t ≠ [] → ∃ z,T.zero t = some z ∧ ∀ X,DenL S X (S.zero t) (cellsOf z)
  cmp : ∀ t,S.cmp t = true → T.cmp t = true ∧ ∃ k,T.und t = some (.int k)
  eqs : ∀ t gs, S.eqs t = true → T.und t = some (.struct gs) → T.eqOk t = true ∧ ∀ g ∈ gs.toList, g.name ≠ "_"
  cells : ∀ c x,(S.cells c x).length = S.k c ∧ ∀ v ∈ S.cells c x,one v = true
  idf : ∀ c x,∀ v ∈ S.cells c x,idf v = true
  of : ∀ c l x,S.of c l = some x → ∀ X vs,DenL S X l vs → DenL S X (S.cells c x) vs
section
variable {S : Sys U} {X : Env U}
theorem DenL.len {l : List (SV U)} {vs : List Value} (h : DenL S X l vs) : vs.length = l.length := by induction h <;> simp [*]
theorem lenL_eq : ∀ l : List (SV U),lenL l = l.length
  | [] => rfl
  | _ :: l => by simp [lenL,lenL_eq l]
theorem DenL.uncons {v : SV U} {l : List (SV U)} {vs : List Value} (h : DenL S X (v :: l) vs) : ∃ w ws,vs = w :: ws ∧ Den S X v w ∧ DenL S X l ws := by
  cases h with
  | undef h => exact ⟨_,_,rfl,.undef .nil,h⟩
  | skip h => exact ⟨_,_,rfl,.skip .nil,h⟩
  | int h => exact ⟨_,_,rfl,.int .nil,h⟩
  | bool h => exact ⟨_,_,rfl,.bool .nil,h⟩
  | str h => exact ⟨_,_,rfl,.str .nil,h⟩
  | nilP h => exact ⟨_,_,rfl,.nilP .nil,h⟩
  | nilS h => exact ⟨_,_,rfl,.nilS .nil,h⟩
  | nilF h => exact ⟨_,_,rfl,.nilF .nil,h⟩
  | nilI h => exact ⟨_,_,rfl,.nilI .nil,h⟩
  | nilM h => exact ⟨_,_,rfl,.nilM .nil,h⟩
  | agg h0 h => exact ⟨_,_,rfl,.agg h0 .nil,h⟩
  | tup h0 h => exact ⟨_,_,rfl,.tup h0 .nil,h⟩
  | ptr h0 h => exact ⟨_,_,rfl,.ptr h0 .nil,h⟩
  | sl h9 h0 h1 h2 h3 h => exact ⟨_,_,rfl,.sl h9 h0 h1 h2 h3 .nil,h⟩
  | ol h0 h => exact ⟨_,_,rfl,.ol h0 .nil,h⟩
  | osl h0 h => exact ⟨_,_,rfl,.osl h0 .nil,h⟩
  | olp h0 h => exact ⟨_,_,rfl,.olp h0 .nil,h⟩
  | rp h0 h1 h2 h3 h4 h => exact ⟨_,_,rfl,.rp h0 h1 h2 h3 h4 .nil,h⟩
  | func h0 h1 h => exact ⟨_,_,rfl,.func h0 h1 .nil,h⟩
  | yld h0 h => exact ⟨_,_,rfl,.yld h0 .nil,h⟩
  | iface h0 h => exact ⟨_,_,rfl,.iface h0 .nil,h⟩
theorem DenL.cons {v : SV U} {w : Value} {l : List (SV U)} {vs : List Value} (h : Den S X v w) (h' : DenL S X l vs) : DenL S X (v :: l) (w :: vs) := by
  cases h with
  | undef _ => exact .undef h'
  | skip _ => exact .skip h'
  | int _ => exact .int h'
  | bool _ => exact .bool h'
  | str _ => exact .str h'
  | nilP _ => exact .nilP h'
  | nilS _ => exact .nilS h'
  | nilF _ => exact .nilF h'
  | nilI _ => exact .nilI h'
  | nilM _ => exact .nilM h'
  | agg h0 _ => exact .agg h0 h'
  | tup h0 _ => exact .tup h0 h'
  | ptr h0 _ => exact .ptr h0 h'
  | sl h9 h0 h1 h2 h3 _ => exact .sl h9 h0 h1 h2 h3 h'
  | ol h0 _ => exact .ol h0 h'
  | osl h0 _ => exact .osl h0 h'
  | olp h0 _ => exact .olp h0 h'
  | rp h0 h1 h2 h3 h4 _ => exact .rp h0 h1 h2 h3 h4 h'
  | func h0 h1 _ => exact .func h0 h1 h'
  | yld h0 _ => exact .yld h0 h'
  | iface h0 _ => exact .iface h0 h'
theorem DenL.nth : ∀ {l : List (SV U)} {vs : List Value} (i : Nat),DenL S X l vs → i < l.length → ∃ w,vs[i]? = some w ∧ Den S X (nth l i) w
  | [],_,i,_,h => by simp at h
  | v :: l,vs,0,h,_ => by
    obtain ⟨w,ws,rfl,h1,_⟩ := h.uncons
    exact ⟨w,rfl,h1⟩
  | v :: l,vs,i + 1,h,hi => by
    obtain ⟨w,ws,rfl,_,h2⟩ := h.uncons
    obtain ⟨w',h3,h4⟩ := DenL.nth i h2 (by simpa using hi)
    exact ⟨w',by simpa using h3,h4⟩
theorem DenL.drop : ∀ {l : List (SV U)} {vs : List Value} (i : Nat),DenL S X l vs → DenL S X (dropL l i) (vs.drop i)
  | [],vs,0,h => h
  | [],vs,i + 1,h => by cases h; exact .nil
  | v :: l,vs,0,h => h
  | v :: l,vs,i + 1,h => by
    obtain ⟨w,ws,rfl,_,h2⟩ := h.uncons
    exact DenL.drop i h2
theorem DenL.take : ∀ {l : List (SV U)} {vs : List Value} (i : Nat),DenL S X l vs → DenL S X (takeL l i) (vs.take i)
  | [],vs,0,h => by simp [takeL]; exact .nil
  | [],vs,i + 1,h => by cases h; exact .nil
  | v :: l,vs,0,h => by simp [takeL]; exact .nil
  | v :: l,vs,i + 1,h => by
    obtain ⟨w,ws,rfl,h1,h2⟩ := h.uncons
    exact DenL.cons h1 (DenL.take i h2)
theorem DenL.put : ∀ {l m : List (SV U)} {vs ws : List Value} (o : Nat),DenL S X l vs → DenL S X m ws → DenL S X (putL l o m) (putAt vs o ws)
  | l,[],vs,ws,o,h,h' => by cases h'; cases l <;> cases vs <;> cases o <;> exact h
  | [],m :: ms,vs,ws,o,h,h' => by
    cases h
    obtain ⟨w,wr,rfl,_,_⟩ := h'.uncons
    simp only [putL,putAt]; exact .nil
  | v :: l,m :: ms,vs,ws,0,h,h' => by
    obtain ⟨w,wr,rfl,h1,h2⟩ := h'.uncons
    obtain ⟨u,ur,rfl,_,h4⟩ := h.uncons
    exact DenL.cons h1 (DenL.put 0 h4 h2)
  | v :: l,m :: ms,vs,ws,o + 1,h,h' => by
    obtain ⟨w,wr,rfl,_,_⟩ := h'.uncons
    obtain ⟨u,ur,rfl,h3,h4⟩ := h.uncons
    exact DenL.cons h3 (DenL.put o h4 h')
theorem ofVal1_den (v : Value) : Den S X (ofVal1 v) v := by
  unfold ofVal1
  split <;> first | exact .int .nil | exact .bool .nil | exact .str .nil | exact .nilP .nil | exact .nilS .nil | exact .nilF .nil | exact .nilI .nil | exact .nilM .nil | exact .undef .nil
theorem ofVals_den : ∀ l : List Value,DenL S X (l.map ofVal1) l
  | [] => .nil
  | v :: l => DenL.cons (ofVal1_den v) (ofVals_den l)
theorem ofVal_den (v : Value) : Den S X (ofVal v) v := by
  unfold ofVal
  split
  · exact .agg (ofVals_den _) .nil
  · exact .tup (ofVals_den _) .nil
  · exact .iface (ofVal1_den _) .nil
  · exact ofVal1_den _
def FrmOk (S : Sys U) (X : Env U) (F : Frm U) (tmps : List Value) : Prop := ∀ t,Den S X (get F t) (tmps.getD t undef)
theorem evo_den {F : Frm U} {fr : Fr} (h : FrmOk S X F fr.tmps) (x : Operand) : Den S X (evo F x) (fr.eval x) := by
  cases x with
  | tmp t => exact h t
  | const v => exact ofVal_den v
  | global g => exact .undef .nil
  | func f => exact .func .nil .nil .nil
theorem evos_den {F : Frm U} {fr : Fr} (h : FrmOk S X F fr.tmps) : ∀ l : List Operand,DenL S X (l.map (evo F)) (l.map fr.eval)
  | [] => .nil
  | x :: l => DenL.cons (evo_den h x) (evos_den h l)
theorem cellsOf_den {v : SV U} {w : Value} (h : Den S X v w) (h1 : v ≠ .undef) : DenL S X (cellsSV v) (cellsOf w) := by
  have h' := h
  cases h with
  | undef _ => exact absurd rfl h1
  | agg h0 _ => exact h0
  | _ => exact h'
end
end Go.Sx

/-
  SX, PART D: operations without memory do as told, one by one.
-/
namespace Go.Sx
open Go Go.Ev Go.RowKit
variable {U : Nat → Type} {T : Tab} {S : Sys U} {X : Env U}
theorem bool_inv {b : Bool} {w : Value} (h : Den S X (.bool b) w) : w = .bool b := by cases h; rfl
theorem int_inv {k : IntKind} {a : Int} {w : Value} (h : Den S X (.int k a) w) : w = .int k a := by cases h; rfl
theorem str_inv {a : List UInt8} {w : Value} (h : Den S X (.str a) w) : w = .string ⟨⟨a⟩⟩ := by cases h; rfl
theorem ptr_inv {i o : Nat} {w : Value} (h : Den S X (.ptr i o) w) : ∃ N,X.ns[i]? = some (some N) ∧ w = .pointer (some ⟨N,o,none⟩) := by cases h; exact ⟨_,by assumption,rfl⟩
theorem rp_inv {c : Nat} {x : U c} {p : Nat} {w : Value} (h : Den S X (.rp c x p) w) : ∃ N b,∃ ws : List Value,∃ e hi cs,w = .pointer (some ⟨N,b + p,none⟩) ∧ X.t.get N = some (.cells ws e hi) ∧ N < X.n ∧ ¬ X.fb N ∧ Ev.slice ws b (S.k c) = some cs ∧ DenL S X (S.cells c x) cs := by cases h; exact ⟨_,_,_,_,_,_,rfl,by assumption,by assumption,by assumption,by assumption,by assumption⟩
theorem olp_inv {i j o : Nat} {w : Value} (h : Den S X (.olp i j o) w) : ∃ N p,w = .pointer (some ⟨N,p,none⟩) ∧ olpDen S X i j o N p := by cases h; exact ⟨_,_,rfl,by assumption⟩
theorem osl_inv {i lo n : Nat} {w : Value} (h : Den S X (.osl i lo n) w) : oslDen S X i lo n w := by cases h; assumption
theorem agg_inv {l : List (SV U)} {w : Value} (h : Den S X (.agg l) w) : ∃ vs,w = .agg ⟨vs⟩ ∧ DenL S X l vs := by cases h; exact ⟨_,rfl,by assumption⟩
theorem tup_inv {l : List (SV U)} {w : Value} (h : Den S X (.tup l) w) : ∃ vs,w = .tuple ⟨vs⟩ ∧ DenL S X l vs := by cases h; exact ⟨_,rfl,by assumption⟩
theorem sl_inv {c : Nat} {d : List (U c)} {w : Value} (h : Den S X (.sl c d) w) : ∃ a cap N o,∃ ws : List Value,∃ e hi,∃ cs : Nat → List Value,w = .slice a d.length cap ∧ ((a = none ∨ ∃ M p,a = some ⟨M,p,none⟩) ∧ (d.length ≤ cap ∧ cap < END ∨ cap = END + S.k c ∨ d = [] ∧ cap = END + END)) ∧ (d ≠ [] → a = some ⟨N,o,none⟩ ∧ X.t.get N = some (.cells ws e hi) ∧ N < X.n ∧ ¬ X.fb N) ∧ (∀ j x,d[j]? = some x → Ev.slice ws (o + j * S.k c) (S.k c) = some (cs j)) ∧ (∀ j x,d[j]? = some x → DenL S X (S.cells c x) (cs j)) ∧ d.length < END := by
  cases h; exact ⟨_,_,_,_,_,_,_,_,rfl,by assumption,by assumption,by assumption,by assumption,by assumption⟩
theorem iface_inv {t : TypeId} {x : SV U} {w : Value} (h : Den S X (.iface t x) w) : ∃ v,w = .iface t v ∧ Den S X x v := by cases h; exact ⟨_,rfl,by assumption⟩
theorem kind_eq {k k' : IntKind} (h : Nat.beq k.ctorIdx k'.ctorIdx = true) : k = k' := by
  have h := Nat.eq_of_beq_eq_true h
  cases k <;> cases k' <;> first | rfl | (exact absurd h (by decide))
theorem bif_true {c : Bool} {A : Prop} (h : bif c then A else False) : c = true ∧ A := by
  cases c
  · exact h.elim
  · exact ⟨rfl,h⟩
theorem beq_nat {a b : Nat} (h : Nat.beq a b = true) : a = b := Nat.eq_of_beq_eq_true h
theorem and_tt {a b : Bool} (h : (a && b) = true) : a = true ∧ b = true := by cases a <;> cases b <;> simp_all
theorem nbeq_nat {a b : Nat} (h : (!Nat.beq a b) = true) : a ≠ b := by
  intro e; subst e
  have : Nat.beq a a = true := Nat.beq_refl a
  rw [this] at h; cases h
theorem beq_dec {α : Type} [BEq α] [LawfulBEq α] [DecidableEq α] (a b : α) : (a == b) = decide (a = b) := by rw [Bool.eq_iff_iff]; simp
theorem wr64 {x : Int} (h : -9223372036854775808 ≤ x ∧ x < 9223372036854775808) : wr .i64 x = x := W_id h.1 h.2
theorem arith_ex {k : IntKind} {x : Int} {K : SV U → Prop} (h : arith k x K) : K (.int k (wr k x)) := by
  unfold arith at h
  split at h
  · exact h _ rfl wr64
  · exact h
theorem binI_sound {k : IntKind} {a b : Int} {K : SV U → Prop} {op : BinOp} (h : binI k a b K op) : ∃ sv v,K sv ∧ Den S X sv v ∧ intOp op k a k b = some v := by
  cases op with
  | add => exact ⟨_,_,arith_ex h,.int .nil,by simp [intOp,wr]⟩
  | sub => exact ⟨_,_,arith_ex h,.int .nil,by simp [intOp,wr]⟩
  | mul => exact ⟨_,_,arith_ex h,.int .nil,by simp [intOp,wr]⟩
  | quo => exact ⟨_,_,arith_ex h.2,.int .nil,by simp [intOp,wr,h.1.out]⟩
  | rem => exact ⟨_,_,h.2,.int .nil,by simp [intOp,h.1.out]⟩
  | eql => exact ⟨_,_,h (decide (a = b)) (by simp),.bool .nil,by simp [intOp,beq_dec]⟩
  | neq => exact ⟨_,_,h (decide (¬ a = b)) (by simp),.bool .nil,by simp [intOp,bne,beq_dec]⟩
  | lss => exact ⟨_,_,h (decide (a < b)) (by simp),.bool .nil,by simp [intOp]⟩
  | leq => exact ⟨_,_,h (decide (a ≤ b)) (by simp),.bool .nil,by simp [intOp]⟩
  | gtr => exact ⟨_,_,h (decide (b < a)) (by simp),.bool .nil,by simp [intOp]⟩
  | geq => exact ⟨_,_,h (decide (b ≤ a)) (by simp),.bool .nil,by simp [intOp]⟩
  | _ => exact h.elim
theorem binS_sound {a b : List UInt8} {K : SV U → Prop} {op : BinOp} (h : binS a b K op) : ∃ sv v,K sv ∧ Den S X sv v ∧ stringOp op a b = some v := by
  cases op with
  | add => exact ⟨_,_,h.2,.str .nil,by simp [stringOp,h.1.out]⟩
  | eql => exact ⟨_,_,h (decide (a = b)) (by simp),.bool .nil,by simp [stringOp,beq_dec]⟩
  | neq => exact ⟨_,_,h (decide (¬ a = b)) (by simp),.bool .nil,by simp [stringOp,beq_dec]⟩
  | _ => exact h.elim
theorem equal_int (ok : SysOk T S) {n : Nat} {u : TypeId} {k k0 : IntKind} {a b : Int} (h : S.td u = .int k0) : equalF T (n + 1) u (.int k a) (.int k b) = some (a == b) := by
  unfold equalF; rw [ok.int u _ h]; simp
theorem equal_str (ok : SysOk T S) {n : Nat} {u : TypeId} {a b : List UInt8} (h : S.td u = .str) : equalF T (n + 1) u (.string ⟨⟨a⟩⟩) (.string ⟨⟨b⟩⟩) = some (a == b) := by
  unfold equalF; rw [ok.str u h]
theorem equal_bool (ok : SysOk T S) {n : Nat} {u : TypeId} {a b : Bool} (h : S.td u = .bool) : equalF T (n + 1) u (.bool a) (.bool b) = some (a == b) := by
  unfold equalF; rw [ok.bool u h]
theorem aggEq_sound (ok : SysOk T S) {n : Nat} {xs ys : List (SV U)} {vs ws : List Value} (hx : DenL S X xs vs) (hy : DenL S X ys ws) : ∀ {fs : List (Nat × Nat × TypeId)} {gs : List Field} {K : Prop → Prop}, aggEq S xs ys fs K → StructOk T S fs gs → (∀ g ∈ gs, g.name ≠ "_") → ∃ (P : Prop) (q : Bool), K P ∧ (q = true ↔ P) ∧ fieldsEq T (equalF T (n + 1)) gs vs ws = some q
  | [],[],K,h,_,_ => ⟨True,true,h,by simp,rfl⟩
  | [],_ :: _,K,h,s,_ => s.elim
  | _ :: _,[],K,h,s,_ => s.elim
  | (o,m,u) :: fs,g :: gs,K,h,s,hn => by
    obtain ⟨s1,s2,s3,⟨d,s4,s5⟩,s6⟩ := s
    unfold aggEq at h
    obtain ⟨hc,h⟩ := bif_true h
    obtain ⟨hc1,hc2⟩ := and_tt hc
    obtain ⟨w1,e1,d1⟩ := hx.nth o (by rw [← lenL_eq]; exact Nat.le_of_ble_eq_true hc1)
    obtain ⟨w2,e2,d2⟩ := hy.nth o (by rw [← lenL_eq]; exact Nat.le_of_ble_eq_true hc2)
    have hng : g.name ≠ "_" := hn g List.mem_cons_self
    have hnr : ∀ g ∈ gs, g.name ≠ "_" := fun g hg => hn g (List.mem_cons_of_mem _ hg)
    have fin : ∀ {P0 : Prop} {q0 : Bool},(q0 = true ↔ P0) → isAggD d = false → equalF T (n + 1) u w1 w2 = some q0 → aggEq S xs ys fs (fun P => K (P0 ∧ P)) → ∃ (P : Prop) (q : Bool),K P ∧ (q = true ↔ P) ∧ fieldsEq T (equalF T (n + 1)) (g :: gs) vs ws = some q := by
      intro P0 q0 hq hd he hr
      obtain ⟨P,q,k1,k2,k3⟩ := aggEq_sound ok hx hy hr s6 hnr
      refine ⟨P0 ∧ P,q0 && q,k1,by rw [Bool.and_eq_true,hq,k2],?_⟩
      unfold fieldsEq
      rw [if_neg hng]
      have p1 : Ev.part T g.type vs g.offset = some w1 := by unfold Ev.part; rw [s2,s1,s4]; simp only [hd,Bool.false_eq_true,if_false,e1]
      have p2 : Ev.part T g.type ws g.offset = some w2 := by unfold Ev.part; rw [s2,s1,s4]; simp only [hd,Bool.false_eq_true,if_false,e2]
      rw [p1,p2]
      simp only [s2,he]
      cases q0 with
      | true => simp only [Bool.true_and]; exact k3
      | false => simp only [Bool.false_and]
    split at h
    · rename_i k0 k a k' b hd h1 h2
      rw [h1] at d1; rw [h2] at d2
      have := int_inv d1; subst this
      have := int_inv d2; subst this
      obtain ⟨hk,hr⟩ := bif_true h
      have := kind_eq hk; subst this
      have hu := ok.int u _ hd
      rw [hu] at s4; cases s4
      exact fin (q0 := a == b) beq_iff_eq rfl (equal_int ok hd) hr
    · rename_i a b hd h1 h2
      rw [h1] at d1; rw [h2] at d2
      have := str_inv d1; subst this
      have := str_inv d2; subst this
      have hu := ok.str u hd
      rw [hu] at s4; cases s4
      exact fin (q0 := a == b) beq_iff_eq rfl (equal_str ok hd) h
    · rename_i a b hd h1 h2
      rw [h1] at d1; rw [h2] at d2
      have := bool_inv d1; subst this
      have := bool_inv d2; subst this
      have hu := ok.bool u hd
      rw [hu] at s4; cases s4
      exact fin (q0 := a == b) beq_iff_eq rfl (equal_bool ok hd) h
    · exact h.elim
theorem eqK_sound (ok : SysOk T S) {t : TypeId} {c : Bool} {x y : SV U} {vx vy : Value} {K : Bool → Prop} (h : eqK S (S.td t) (S.eqs t) c x y K) (hx : Den S X x vx) (hy : Den S X y vy) : ∃ b,K b ∧ equalF T 50 t vx vy = some b ∧ nilPair c vx vy = true ∧ (∀ k a,vx ≠ .int k a) ∧ (∀ a,vx ≠ .string a) := by
  unfold eqK at h
  split at h
  · rename_i hd; cases hx; cases hy; exact ⟨_,h _ beq_iff_eq,by unfold equalF; rw [ok.bool t hd],rfl,by simp,by simp⟩
  · rename_i hd; cases hx; cases hy; exact ⟨_,h,by unfold equalF; rw [ok.ptr t _ hd]; rfl,rfl,by simp,by simp⟩
  · rename_i hd; cases hx; cases hy; exact ⟨_,h,by unfold equalF; rw [ok.ptr t _ hd]; rfl,rfl,by simp,by simp⟩
  · rename_i hd; cases hx; cases hy; exact ⟨_,h,by unfold equalF; rw [ok.ptr t _ hd],rfl,by simp,by simp⟩
  · rename_i hd; cases hx; cases hy; exact ⟨_,h,by unfold equalF; rw [ok.ptr t _ hd]; rfl,rfl,by simp,by simp⟩
  · rename_i hd; cases hx; cases hy; exact ⟨_,h,by unfold equalF; rw [ok.ptr t _ hd],rfl,by simp,by simp⟩
  · rename_i hd; cases hx; cases hy
    obtain ⟨hc,h⟩ := bif_true h
    obtain ⟨m,hm⟩ := ok.ifc t hd
    exact ⟨_,h,by unfold equalF; rw [hm],by simp [nilPair,hc],by simp,by simp⟩
  · rename_i hd; cases hx; cases hy; obtain ⟨m,hm⟩ := ok.ifc t hd; exact ⟨_,h,by unfold equalF; rw [hm],rfl,by simp,by simp⟩
  · rename_i hd; cases hx; cases hy; obtain ⟨m,hm⟩ := ok.ifc t hd; exact ⟨_,h,by unfold equalF; rw [hm],rfl,by simp,by simp⟩
  · rename_i tx k a u k' b hd
    cases hx with
    | iface h0 _ =>
      cases h0
      cases hy with
      | iface h0 _ =>
        cases h0
        obtain ⟨m,hm⟩ := ok.ifc t hd
        by_cases e : tx = u
        · subst e
          have e1 : Nat.beq tx tx = true := Nat.beq_refl tx
          rw [e1] at h
          obtain ⟨hc,hK⟩ := bif_true h
          obtain ⟨h1,h2⟩ := and_tt hc
          obtain ⟨g1,k0,g2⟩ := ok.cmp _ h1
          have := kind_eq h2; subst this
          exact ⟨_,hK (decide (a = b)) (by simp),by unfold equalF; rw [hm]; simp [g1,g2,beq_dec],rfl,by simp,by simp⟩
        · have e1 : Nat.beq tx u = false := by
            cases h0 : Nat.beq tx u with
            | false => rfl
            | true => exact absurd (beq_nat h0) e
          rw [e1] at h
          exact ⟨_,h,by unfold equalF; rw [hm]; simp [e],rfl,by simp,by simp⟩
  · rename_i hd; cases hx; cases hy; obtain ⟨a,b,c,hm⟩ := ok.fn t hd; exact ⟨_,h,by unfold equalF; rw [hm],rfl,by simp,by simp⟩
  · rename_i hd; cases hx; cases hy; obtain ⟨a,b,c,hm⟩ := ok.fn t hd; exact ⟨_,h,by unfold equalF; rw [hm],rfl,by simp,by simp⟩
  · rename_i hd; cases hx; cases hy; obtain ⟨a,b,c,hm⟩ := ok.fn t hd; exact ⟨_,h,by unfold equalF; rw [hm],rfl,by simp,by simp⟩
  · rename_i l hd
    cases hy
    cases hx with
    | @sl _ _ a cap N o ws e hi cs _ _ _ ha _ _ _ _ =>
      refine ⟨a.isNone,h _ fun hn => ?_,?_,?_,by simp,by simp⟩
      · cases l with
        | nil => rfl
        | cons y l => rw [(ha (by simp)).1] at hn; cases hn
      · unfold equalF; rw [ok.slice t _ hd]; cases a <;> rfl
      · rfl
  · rename_i hd; cases hx; cases hy; exact ⟨_,h,by unfold equalF; rw [ok.slice t _ hd]; rfl,rfl,by simp,by simp⟩
  · rename_i fs xs ys hd
    cases he : S.eqs t with
    | false => rw [he] at h; exact h.elim
    | true =>
      rw [he] at h
      obtain ⟨vs,rfl,hx'⟩ := agg_inv hx
      obtain ⟨ws,rfl,hy'⟩ := agg_inv hy
      obtain ⟨gs,g1,g2⟩ := ok.struct t fs hd
      obtain ⟨g3,g4⟩ := ok.eqs t gs he g1
      obtain ⟨P,q,k1,k2,k3⟩ := aggEq_sound (n := 48) ok hx' hy' h g2 g4
      refine ⟨q,k1 q k2,?_,rfl,by simp,by simp⟩
      unfold equalF
      rw [g1]
      simp only [g3,if_true]
      exact k3
  · exact h.elim
theorem binop_eq {t : TypeId} {c : Bool} {vx vy : Value} {b : Bool} (h : equalF T 50 t vx vy = some b) (hn : nilPair c vx vy = true) (h1 : ∀ k a,vx ≠ .int k a) (h2 : ∀ a,vx ≠ .string a) : binop T .eql t c vx vy = some (.bool b) ∧ binop T .neq t c vx vy = some (.bool !b) := by
  unfold binop
  constructor
  · split
    · exact absurd rfl (h1 _ _)
    · exact absurd rfl (h2 _)
    · simp [hn,h]
  · split
    · exact absurd rfl (h1 _ _)
    · exact absurd rfl (h2 _)
    · simp [hn,h]
theorem bin_sound (ok : SysOk T S) {t : TypeId} {op : BinOp} {c : Bool} {x y : SV U} {vx vy : Value} {K : SV U → Prop} (h : bin S (S.td t) (S.eqs t) op c x y K) (hx : Den S X x vx) (hy : Den S X y vy) : ∃ sv v,K sv ∧ Den S X sv v ∧ binop T op t c vx vy = some v := by
  unfold bin at h
  split at h
  · cases hx; cases hy
    obtain ⟨hk,hK⟩ := bif_true h
    have := kind_eq hk; subst this
    obtain ⟨sv,v,h1,h2,h3⟩ := binI_sound (S := S) (X := X) hK
    exact ⟨sv,v,h1,h2,h3⟩
  · cases hx; cases hy
    obtain ⟨sv,v,h1,h2,h3⟩ := binS_sound (S := S) (X := X) h
    exact ⟨sv,v,h1,h2,h3⟩
  · split at h
    · rename_i hop
      obtain ⟨b,h1,h2,h3,h4,h5⟩ := eqK_sound ok h hx hy
      have : op = .eql := by cases op <;> simp [isEq] at hop <;> rfl
      subst this
      exact ⟨_,_,h1,.bool .nil,(binop_eq h2 h3 h4 h5).1⟩
    · rename_i hop
      obtain ⟨b,h1,h2,h3,h4,h5⟩ := eqK_sound ok h hx hy
      have : op = .neq := by cases op <;> simp [isEq] at hop <;> rfl
      subst this
      cases b with
      | true => exact ⟨_,_,h1.1 rfl,.bool .nil,(binop_eq h2 h3 h4 h5).2⟩
      | false => exact ⟨_,_,h1.2 rfl,.bool .nil,(binop_eq h2 h3 h4 h5).2⟩
    · exact h.elim
end Go.Sx
