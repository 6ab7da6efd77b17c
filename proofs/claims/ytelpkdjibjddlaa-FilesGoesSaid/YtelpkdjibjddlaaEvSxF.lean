/-
  SX, PART A: symbolic values over any family of data; what they stand for in a heap.
-/
import Derived.Test.YtelpkdjibjddlaaEvDrawn
namespace Go.Sx
open Go Go.Ev Go.RowKit
inductive SV (U : Nat → Type) where
  | undef
  | skip
  | int (k : IntKind) (x : Int)
  | bool (b : Bool)
  | str (x : List UInt8)
  | nilP | nilS | nilF | nilI | nilM
  | agg (l : List (SV U))
  | tup (l : List (SV U))
  | ptr (i o : Nat)
  | sl (c : Nat) (l : List (U c))
  | ol (i : Nat)
  | olp (i j o : Nat)
  | rp (c : Nat) (x : U c) (o : Nat)
  | func (f : FuncId) (a c : List (SV U))
  | yld (l : Nat)
  | iface (t : TypeId) (x : SV U)
inductive Con (U : Nat → Type) where
  | cells (fz : Bool) (e : TypeId) (vs : List (SV U))
  | list (fz ex : Bool) (e : TypeId) (c : Nat) (l : List (U c))
  | dead
  | loop (r : Loop) (st : LoopState) (pd : Option Code)
def Con.live {U : Nat → Type} : Con U → Bool
  | .cells fz _ _ => !fz
  | .list fz _ _ _ _ => !fz
  | .dead => false
  | .loop _ _ _ => true
inductive TD where
  | int (k : IntKind) | bool | str | ptr (e : TypeId) | slice (e : TypeId) | struct (fs : List (Nat × Nat × TypeId)) | arr (n : Nat) (e : TypeId) | iface | func | map (k e : TypeId) | none
structure Sys (U : Nat → Type) where
  td : TypeId → TD
  size : TypeId → Nat
  agg : TypeId → Bool
  ty : TypeId → Nat
  bytes : TypeId → Nat
  k : Nat → Nat
  cells : (c : Nat) → U c → List (SV U)
  of : (c : Nat) → List (SV U) → Option (U c)
  zero : TypeId → List (SV U)
  cmp : TypeId → Bool
  eqs : TypeId → Bool
structure Env (U : Nat → Type) where
  wb : Nat → Prop
  ns : List (Option Nat)
  H : List (Con U)
  t : Tree
  n : Nat
variable {U : Nat → Type}
def Env.liveN (X : Env U) (N : Nat) : Prop := ∃ (i : Nat) (c : Con U),X.ns[i]? = some (some N) ∧ X.H[i]? = some c ∧ c.live = true
def Env.fb (X : Env U) (N : Nat) : Prop := X.wb N ∨ X.liveN N
def olVal (N : Option Nat) (ex : Bool) (len k : Nat) (v : Value) : Prop := match N with
  | some N => v = .slice (some ⟨N,0,none⟩) len (if ex then len else END + k)
  | none => len = 0 ∧ ∃ a,v = .slice a 0 0 ∧ (a = none ∨ ∃ N,a = some ⟨N,0,none⟩)
def olDen (S : Sys U) (X : Env U) (i : Nat) (v : Value) : Prop := match X.H[i]? with
  | some (.list _ ex _ c l) => ∃ N,X.ns[i]? = some N ∧ olVal N ex l.length (S.k c) v
  | some _ => True
  | none => False
def olpDen (S : Sys U) (X : Env U) (i j o : Nat) (N p : Nat) : Prop := match X.H[i]? with
  | some (.list _ _ _ c _) => X.ns[i]? = some (some N) ∧ p = j * S.k c + o
  | some _ => True
  | none => False
inductive DenL (S : Sys U) (X : Env U) : List (SV U) → List Value → Prop
  | nil : DenL S X [] []
  | undef {w l vs} : DenL S X l vs → DenL S X (.undef :: l) (w :: vs)
  | skip {l vs} : DenL S X l vs → DenL S X (.skip :: l) (Go.undef :: vs)
  | int {k x l vs} : DenL S X l vs → DenL S X (.int k x :: l) (.int k x :: vs)
  | bool {b l vs} : DenL S X l vs → DenL S X (.bool b :: l) (.bool b :: vs)
  | str {x l vs} : DenL S X l vs → DenL S X (.str x :: l) (.string ⟨⟨x⟩⟩ :: vs)
  | nilP {l vs} : DenL S X l vs → DenL S X (.nilP :: l) (.pointer none :: vs)
  | nilS {l vs} : DenL S X l vs → DenL S X (.nilS :: l) (.slice none 0 0 :: vs)
  | nilF {l vs} : DenL S X l vs → DenL S X (.nilF :: l) (.nilFunc :: vs)
  | nilI {l vs} : DenL S X l vs → DenL S X (.nilI :: l) (.nilIface :: vs)
  | nilM {l vs} : DenL S X l vs → DenL S X (.nilM :: l) (.map none :: vs)
  | agg {a as l vs} : DenL S X a as → DenL S X l vs → DenL S X (.agg a :: l) (.agg ⟨as⟩ :: vs)
  | tup {a as l vs} : DenL S X a as → DenL S X l vs → DenL S X (.tup a :: l) (.tuple ⟨as⟩ :: vs)
  | ptr {i o N l vs} : X.ns[i]? = some (some N) → DenL S X l vs → DenL S X (.ptr i o :: l) (.pointer (some ⟨N,o,none⟩) :: vs)
  | sl {c : Nat} {d : List (U c)} {a : Option Addr} {cap N o : Nat} {ws : List Value} {e hi : Nat} {cs : Nat → List Value} {l vs} : ((a = none ∨ ∃ M p,a = some ⟨M,p,none⟩) ∧ (d.length ≤ cap ∧ cap < END ∨ cap = END + S.k c ∨ d = [] ∧ cap = END + END)) → (d ≠ [] → a = some ⟨N,o,none⟩ ∧ X.t.get N = some (.cells ws e hi) ∧ N < X.n ∧ ¬ X.fb N) → (∀ j x,d[j]? = some x → Ev.slice ws (o + j * S.k c) (S.k c) = some (cs j)) →
      (∀ j x,d[j]? = some x → DenL S X (S.cells c x) (cs j)) → d.length < END → DenL S X l vs → DenL S X (.sl c d :: l) (.slice a d.length cap :: vs)
  | ol {i : Nat} {a : Option Addr} {m cap : Nat} {l vs} : olDen S X i (.slice a m cap) → DenL S X l vs → DenL S X (.ol i :: l) (.slice a m cap :: vs)
  | olp {i j o N p : Nat} {l vs} : olpDen S X i j o N p → DenL S X l vs → DenL S X (.olp i j o :: l) (.pointer (some ⟨N,p,none⟩) :: vs)
  | rp {c : Nat} {x : U c} {p N b : Nat} {ws : List Value} {e hi : Nat} {cs : List Value} {l vs} : X.t.get N = some (.cells ws e hi) → N < X.n → ¬ X.fb N → Ev.slice ws b (S.k c) = some cs → DenL S X (S.cells c x) cs → DenL S X l vs → DenL S X (.rp c x p :: l) (.pointer (some ⟨N,b + p,none⟩) :: vs)
  | func {f a c as cs l vs} : DenL S X a as → DenL S X c cs → DenL S X l vs → DenL S X (.func f a c :: l) (.func (.func f) ⟨as⟩ ⟨cs⟩ :: vs)
  | yld {i N l vs} : X.ns[i]? = some (some N) → DenL S X l vs → DenL S X (.yld i :: l) (.func (.yield N) #[] #[] :: vs)
  | iface {t x w l vs} : DenL S X [x] [w] → DenL S X l vs → DenL S X (.iface t x :: l) (.iface t w :: vs)
abbrev Den (S : Sys U) (X : Env U) (v : SV U) (w : Value) : Prop := DenL S X [v] [w]
def ConOk (S : Sys U) (X : Env U) (N : Option Nat) : Con U → Prop
  | .cells fz e vs => ∃ M ws,N = some M ∧ X.t.get M = some (.cells ws e 0) ∧ DenL S X vs ws ∧ M < X.n ∧ (fz = true → ¬ X.fb M)
  | .list fz ex e c l => l.length < END ∧ match N with
    | none => l = [] ∧ ex = false
    | some M => ∃ ws,∃ cs : Nat → List Value,X.t.get M = some (.cells ws e 0) ∧ ws.length = l.length * S.k c ∧ (∀ j x,l[j]? = some x → Ev.slice ws (j * S.k c) (S.k c) = some (cs j)) ∧ (∀ j x,l[j]? = some x → DenL S X (S.cells c x) (cs j)) ∧ M < X.n ∧ (fz = true → ¬ X.fb M)
  | .dead => True
  | .loop r st pd => ∃ M,N = some M ∧ X.t.get M = some (.obj (.loop { r with state := st,pending := pd })) ∧ M < X.n
structure HRel (S : Sys U) (X : Env U) : Prop where
  len : X.ns.length = X.H.length
  ok : ∀ (i : Nat) c N,X.H[i]? = some c → X.ns[i]? = some N → ConOk S X N c
  inj : ∀ (i j N : Nat),X.ns[i]? = some (some N) → X.ns[j]? = some (some N) → i = j
  lt : ∀ (i N : Nat),X.ns[i]? = some (some N) → N < X.n ∧ ¬ X.wb N
  wbl : ∀ N,X.wb N → N < X.n
structure Later (X X' : Env U) : Prop where
  ns : ∀ (i : Nat) N,X.ns[i]? = some N → X'.ns[i]? = some N
  H : ∀ (i : Nat) c,X.H[i]? = some c → ∃ c',X'.H[i]? = some c' ∧ ∀ fz ex e k l,c' = Con.list fz ex e k l → ∃ fz' l',c = Con.list fz' ex e k l' ∧ l'.length = l.length
  mem : ∀ N,N < X.n → ¬ X.fb N → X'.t.get N = X.t.get N ∧ ¬ X'.fb N
  n : X.n ≤ X'.n
theorem Later.refl (X : Env U) : Later X X := ⟨fun _ _ h => h,fun _ c h => ⟨c,h,fun fz ex e k l e' => ⟨fz,l,e',rfl⟩⟩,fun _ _ h => ⟨rfl,h⟩,Nat.le_refl _⟩
theorem Later.trans {X Y Z : Env U} (h : Later X Y) (g : Later Y Z) : Later X Z := by
  refine ⟨fun i N e => g.ns i N (h.ns i N e),fun i c e => ?_,fun N hN hf => ?_,Nat.le_trans h.n g.n⟩
  · obtain ⟨c1,e1,f1⟩ := h.H i c e
    obtain ⟨c2,e2,f2⟩ := g.H i c1 e1
    refine ⟨c2,e2,fun fz ex e k l hc => ?_⟩
    obtain ⟨fz1,l1,hc1,hl1⟩ := f2 fz ex e k l hc
    obtain ⟨fz2,l2,hc2,hl2⟩ := f1 fz1 ex e k l1 hc1
    exact ⟨fz2,l2,hc2,hl2.trans hl1⟩
  · obtain ⟨a,b⟩ := h.mem N hN hf
    obtain ⟨c,d⟩ := g.mem N (Nat.lt_of_lt_of_le hN h.n) b
    exact ⟨c.trans a,d⟩
theorem DenL.later {S : Sys U} {X X' : Env U} (h : Later X X') {l : List (SV U)} {vs : List Value} (d : DenL S X l vs) : DenL S X' l vs := by
  induction d with
  | nil => exact .nil
  | undef _ ih => exact .undef ih
  | skip _ ih => exact .skip ih
  | int _ ih => exact .int ih
  | bool _ ih => exact .bool ih
  | str _ ih => exact .str ih
  | nilP _ ih => exact .nilP ih
  | nilS _ ih => exact .nilS ih
  | nilF _ ih => exact .nilF ih
  | nilI _ ih => exact .nilI ih
  | nilM _ ih => exact .nilM ih
  | agg _ _ i1 i2 => exact .agg i1 i2
  | tup _ _ i1 i2 => exact .tup i1 i2
  | ptr e _ ih => exact .ptr (h.ns _ _ e) ih
  | sl h9 ha hx _ hs _ i1 i2 => exact .sl h9 (fun hd => by obtain ⟨a,b,c,d⟩ := ha hd; exact ⟨a,(h.mem _ c d).1.trans b,Nat.lt_of_lt_of_le c h.n,(h.mem _ c d).2⟩) hx i1 hs i2
  | ol e _ ih =>
    refine .ol ?_ ih
    unfold olDen at e ⊢
    split at e
    · rename_i fz ex e' c l hH
      obtain ⟨c',e1,f1⟩ := h.H _ _ hH
      rw [e1]
      split
      · rename_i hh
        cases hh
        obtain ⟨fz',l',hc,hl⟩ := f1 _ _ _ _ _ rfl
        cases hc
        obtain ⟨N,g1,g2⟩ := e
        exact ⟨N,h.ns _ _ g1,hl ▸ g2⟩
      · trivial
      · rename_i hh; cases hh
    · rename_i hne hH
      obtain ⟨c',e1,f1⟩ := h.H _ _ hH
      rw [e1]
      split
      · rename_i hh
        cases hh
        obtain ⟨fz',l',hc,hl⟩ := f1 _ _ _ _ _ rfl
        exact (hne _ _ _ _ _ hc).elim
      · trivial
      · rename_i hh; cases hh
    · exact e.elim
  | olp e _ ih =>
    refine .olp ?_ ih
    unfold olpDen at e ⊢
    split at e
    · rename_i hH
      obtain ⟨c',e1,f1⟩ := h.H _ _ hH
      rw [e1]
      split
      · rename_i hh
        cases hh
        obtain ⟨fz',l',hc,hl⟩ := f1 _ _ _ _ _ rfl
        cases hc
        obtain ⟨g1,g2⟩ := e
        exact ⟨h.ns _ _ g1,g2⟩
      · trivial
      · rename_i hh; cases hh
    · rename_i hne hH
      obtain ⟨c',e1,f1⟩ := h.H _ _ hH
      rw [e1]
      split
      · rename_i hh
        cases hh
        obtain ⟨fz',l',hc,hl⟩ := f1 _ _ _ _ _ rfl
        exact (hne _ _ _ _ _ hc).elim
      · trivial
      · rename_i hh; cases hh
    · exact e.elim
  | rp h2 h3 h4 h5 _ _ i1 i2 => exact .rp ((h.mem _ h3 h4).1.trans h2) (Nat.lt_of_lt_of_le h3 h.n) (h.mem _ h3 h4).2 h5 i1 i2
  | func _ _ _ i1 i2 i3 => exact .func i1 i2 i3
  | yld e _ ih => exact .yld (h.ns _ _ e) ih
  | iface _ _ i1 i2 => exact .iface i1 i2
end Go.Sx

/-
  SX, PART B: the symbolic walk: what is to be shown for a piece of code, by its text alone.
-/
namespace Go.Sx
open Go Go.Ev Go.RowKit
variable {U : Nat → Type}
abbrev Frm (U : Nat → Type) := List (Nat × SV U)
abbrev Hp (U : Nat → Type) := List (Con U)
def get : Frm U → Nat → SV U
  | [],_ => .undef
  | (m,v) :: l,n => bif Nat.beq n m then v else get l n
def nth : List (SV U) → Nat → SV U
  | [],_ => .undef
  | a :: _,0 => a
  | _ :: l,n + 1 => nth l n
def dropL : List (SV U) → Nat → List (SV U)
  | l,0 => l
  | [],_ => []
  | _ :: l,n + 1 => dropL l n
def takeL : List (SV U) → Nat → List (SV U)
  | _,0 => []
  | [],_ => []
  | a :: l,n + 1 => a :: takeL l n
def putL : List (SV U) → Nat → List (SV U) → List (SV U)
  | l,_,[] => l
  | [],_,_ => []
  | _ :: l,0,v :: vs => v :: putL l 0 vs
  | x :: l,o + 1,vs => x :: putL l o vs
def lenL : List (SV U) → Nat
  | [] => 0
  | _ :: l => Nat.succ (lenL l)
def conAt : Hp U → Nat → Con U
  | [],_ => .dead
  | a :: _,0 => a
  | _ :: l,n + 1 => conAt l n
def setC : Hp U → Nat → Con U → Hp U
  | [],_,_ => []
  | _ :: l,0,c => c :: l
  | a :: l,n + 1,c => a :: setC l n c
def lenH : Hp U → Nat
  | [] => 0
  | _ :: l => Nat.succ (lenH l)
def snoc : Hp U → Con U → Hp U
  | [],c => [c]
  | a :: l,c => a :: snoc l c
def ofVal1 : Value → SV U
  | .int k x => .int k x
  | .bool b => .bool b
  | .string s => .str s.data.toList
  | .pointer none => .nilP
  | .slice none 0 0 => .nilS
  | .nilFunc => .nilF
  | .nilIface => .nilI
  | .map none => .nilM
  | _ => .undef
def ofVal : Value → SV U
  | .agg cs => .agg (cs.toList.map ofVal1)
  | .tuple cs => .tup (cs.toList.map ofVal1)
  | .iface t v => .iface t (ofVal1 v)
  | v => ofVal1 v
def evo (F : Frm U) : Operand → SV U
  | .tmp t => get F t
  | .const v => ofVal v
  | .func f => .func f [] []
  | .global _ => .undef
def forceL (R : SV U → (SV U → Prop) → Prop) : List (SV U) → (List (SV U) → Prop) → Prop
  | [],K => K []
  | v :: l,K => R v fun v => forceL R l fun l => K (v :: l)
def force1 (v : SV U) (K : SV U → Prop) : Prop := match v with
  | .undef => K .undef | .skip => K .skip | .int k x => K (.int k x) | .bool b => K (.bool b) | .str x => K (.str x) | .nilP => K .nilP | .nilS => K .nilS | .nilF => K .nilF | .nilI => K .nilI | .nilM => K .nilM
  | .agg l => K (.agg l) | .tup l => K (.tup l) | .ptr i o => K (.ptr i o) | .sl c l => K (.sl c l) | .ol i => K (.ol i) | .olp i j o => K (.olp i j o) | .rp c x o => K (.rp c x o)
  | .func f a c => K (.func f a c) | .yld l => K (.yld l) | .iface t x => K (.iface t x)
def force2 (v : SV U) (K : SV U → Prop) : Prop := match v with
  | .undef => K .undef | .skip => K .skip | .int k x => K (.int k x) | .bool b => K (.bool b) | .str x => K (.str x) | .nilP => K .nilP | .nilS => K .nilS | .nilF => K .nilF | .nilI => K .nilI | .nilM => K .nilM
  | .agg l => forceL force1 l fun l => K (.agg l) | .tup l => forceL force1 l fun l => K (.tup l) | .ptr i o => K (.ptr i o) | .sl c l => K (.sl c l) | .ol i => K (.ol i) | .olp i j o => K (.olp i j o) | .rp c x o => K (.rp c x o)
  | .func f a c => forceL force1 a fun a => forceL force1 c fun c => K (.func f a c) | .yld l => K (.yld l) | .iface t x => force1 x fun x => K (.iface t x)
def force (v : SV U) (K : SV U → Prop) : Prop := match v with
  | .undef => K .undef | .skip => K .skip | .int k x => K (.int k x) | .bool b => K (.bool b) | .str x => K (.str x) | .nilP => K .nilP | .nilS => K .nilS | .nilF => K .nilF | .nilI => K .nilI | .nilM => K .nilM
  | .agg l => forceL force2 l fun l => K (.agg l) | .tup l => forceL force2 l fun l => K (.tup l) | .ptr i o => K (.ptr i o) | .sl c l => K (.sl c l) | .ol i => K (.ol i) | .olp i j o => K (.olp i j o) | .rp c x o => K (.rp c x o)
  | .func f a c => forceL force2 a fun a => forceL force2 c fun c => K (.func f a c) | .yld l => K (.yld l) | .iface t x => force2 x fun x => K (.iface t x)
def forceC (c : Con U) (K : Con U → Prop) : Prop := match c with
  | .cells fz e vs => forceL force vs fun vs => K (.cells fz e vs)
  | .list fz ex e c l => K (.list fz ex e c l)
  | .loop r st pd => K (.loop r st pd)
  | .dead => K .dead
def forceH : Hp U → (Hp U → Prop) → Prop
  | [],K => K []
  | c :: H,K => forceC c fun c => forceH H fun H => K (c :: H)
theorem forceL_eq {R : SV U → (SV U → Prop) → Prop} (hR : ∀ v K,R v K = K v) : ∀ (l : List (SV U)) (K : List (SV U) → Prop),forceL R l K = K l
  | [],_ => rfl
  | v :: l,K => by simp only [forceL,hR,forceL_eq hR l]
theorem force1_eq (v : SV U) (K : SV U → Prop) : force1 v K = K v := by cases v <;> rfl
theorem force2_eq (v : SV U) (K : SV U → Prop) : force2 v K = K v := by cases v <;> simp only [force2,forceL_eq force1_eq,force1_eq]
theorem force_eq (v : SV U) (K : SV U → Prop) : force v K = K v := by cases v <;> simp only [force,forceL_eq force2_eq,force2_eq]
theorem forceC_eq (c : Con U) (K : Con U → Prop) : forceC c K = K c := by cases c <;> simp only [forceC,forceL_eq force_eq]
theorem forceH_eq : ∀ (H : Hp U) (K : Hp U → Prop),forceH H K = K H
  | [],_ => rfl
  | c :: H,K => by simp only [forceH,forceC_eq,forceH_eq H]
@[irreducible] def Chk (p : Prop) : Prop := p
theorem Chk.out {p : Prop} (h : Chk p) : p := by unfold Chk at h; exact h
theorem Chk.mk {p : Prop} (h : p) : Chk p := by unfold Chk; exact h
def wr (k : IntKind) (x : Int) : Int := k.wrap x
def arith (k : IntKind) (x : Int) (K : SV U → Prop) : Prop := match k with
  | .i64 => ∀ z : Int,z = wr .i64 x → (-9223372036854775808 ≤ x ∧ x < 9223372036854775808 → z = x) → K (.int .i64 z)
  | k => K (.int k (wr k x))
def binI (k : IntKind) (a b : Int) (K : SV U → Prop) : BinOp → Prop
  | .add => arith k (a + b) K
  | .sub => arith k (a - b) K
  | .mul => arith k (a * b) K
  | .quo => Chk (b ≠ 0) ∧ arith k (a.tdiv b) K
  | .rem => Chk (b ≠ 0) ∧ K (.int k (a.tmod b))
  | .eql => ∀ q,(q = true ↔ a = b) → K (.bool q)
  | .neq => ∀ q,(q = true ↔ ¬ a = b) → K (.bool q)
  | .lss => ∀ q,(q = true ↔ a < b) → K (.bool q)
  | .leq => ∀ q,(q = true ↔ a ≤ b) → K (.bool q)
  | .gtr => ∀ q,(q = true ↔ b < a) → K (.bool q)
  | .geq => ∀ q,(q = true ↔ b ≤ a) → K (.bool q)
  | _ => False
def binS (a b : List UInt8) (K : SV U → Prop) : BinOp → Prop
  | .add => Chk (a.length + b.length ≤ 9223372036854775807) ∧ K (.str (a ++ b))
  | .eql => ∀ q,(q = true ↔ a = b) → K (.bool q)
  | .neq => ∀ q,(q = true ↔ ¬ a = b) → K (.bool q)
  | _ => False
def aggEq (S : Sys U) (xs ys : List (SV U)) : List (Nat × Nat × TypeId) → (Prop → Prop) → Prop
  | [],K => K True
  | (o,_,u) :: fs,K => bif Nat.blt o (lenL xs) && Nat.blt o (lenL ys) then match S.td u,nth xs o,nth ys o with
    | .int _,.int k a,.int k' b => bif Nat.beq k.ctorIdx k'.ctorIdx then aggEq S xs ys fs fun P => K (a = b ∧ P) else False
    | .str,.str a,.str b => aggEq S xs ys fs fun P => K (a = b ∧ P)
    | .bool,.bool a,.bool b => aggEq S xs ys fs fun P => K (a = b ∧ P)
    | _,_,_ => False
   else False
def eqK (S : Sys U) (d : TD) (es : Bool) (c : Bool) (x y : SV U) (K : Bool → Prop) : Prop := match d,x,y with
  | .bool,.bool a,.bool b => ∀ q,(q = true ↔ a = b) → K q
  | .ptr _,.nilP,.nilP => K true
  | .ptr _,.nilP,.ptr _ _ => K false
  | .ptr _,.ptr _ _,.nilP => K false
  | .ptr _,.nilP,.rp _ _ _ => K false
  | .ptr _,.rp _ _ _,.nilP => K false
  | .iface,.nilI,.nilI => bif c then K true else False
  | .iface,.nilI,.iface _ _ => K false
  | .iface,.iface _ _,.nilI => K false
  | .iface,.iface t (.int k a),.iface u (.int k' b) => bif Nat.beq t u then (bif S.cmp t && Nat.beq k.ctorIdx k'.ctorIdx then (∀ q,(q = true ↔ a = b) → K q) else False) else K false
  | .func,.nilF,.nilF => K true
  | .func,.nilF,.func _ _ _ => K false
  | .func,.func _ _ _,.nilF => K false
  | .slice _,.sl _ l,.nilS => ∀ b,(b = true → l = []) → K b
  | .slice _,.nilS,.nilS => K true
  | .struct fs,.agg xs,.agg ys => bif !es then False else aggEq S xs ys fs fun P => ∀ q,(q = true ↔ P) → K q
  | _,_,_ => False
def isEq : BinOp → Option Bool
  | .eql => some true
  | .neq => some false
  | _ => none
def bin (S : Sys U) (d : TD) (es : Bool) (op : BinOp) (c : Bool) (x y : SV U) (K : SV U → Prop) : Prop := match x,y with
  | .int k a,.int k' b => bif Nat.beq k.ctorIdx k'.ctorIdx then binI k a b K op else False
  | .str a,.str b => binS a b K op
  | x,y => match isEq op with
    | some true => eqK S d es c x y fun b => K (.bool b)
    | some false => eqK S d es c x y fun b => (b = true → K (.bool false)) ∧ (b = false → K (.bool true))
    | none => False
def fieldOf (fs : List (Nat × Nat × TypeId)) (i : Nat) (K : Nat → Nat → TypeId → Prop) : Prop := match fs,i with
  | [],_ => False
  | (o,n,t) :: _,0 => K o n t
  | _ :: fs,i + 1 => fieldOf fs i K
def sliceStr (s : List UInt8) (lo hi : Option (SV U)) (K : SV U → Prop) : Prop := match lo,hi with
  | none,none => K (.str s)
  | some (.int _ a),none => Chk (0 ≤ a ∧ a ≤ s.length) ∧ K (.str (s.drop a.toNat))
  | none,some (.int _ b) => Chk (0 ≤ b ∧ b ≤ s.length) ∧ K (.str (s.take b.toNat))
  | some (.int _ a),some (.int _ b) => Chk (0 ≤ a ∧ a ≤ b ∧ b ≤ s.length) ∧ K (.str ((s.drop a.toNat).take (b.toNat - a.toNat)))
  | _,_ => False
def optS (F : Frm U) : Option Operand → Option (SV U)
  | some x => some (evo F x)
  | none => none
def cellsSV : SV U → List (SV U)
  | .agg l => l
  | v => [v]
def fillS (fs : List (Nat × Nat × TypeId)) (F : Frm U) : List (Nat × Operand) → List (SV U) → (List (SV U) → Prop) → Prop
  | [],l,K => K l
  | (i,x) :: ps,l,K => fieldOf fs i fun o n _ => match evo F x with
    | .undef => False
    | v => bif Nat.beq (lenL (cellsSV v)) n && Nat.ble (o + n) (lenL l) then fillS fs F ps (putL l o (cellsSV v)) K else False
def arrFs (sz : Nat) : Nat → Nat → List (Nat × Nat × TypeId)
  | 0,_ => []
  | n + 1,o => (o,sz,0) :: arrFs sz n (o + sz)
def lenSV (H : Hp U) (v : SV U) (K : Nat → Prop) : Prop := match v with
  | .nilS => K 0
  | .sl _ l => l.length < 4611686018427387904 → K l.length
  | .ol i => match conAt H i with
    | .list _ _ _ _ l => l.length < 4611686018427387904 → K l.length
    | _ => False
  | _ => False
def mm (mx : Bool) (a b : Int) : Int := bif mx then (if a < b then b else a) else (if b < a then b else a)
def minmaxS (mx : Bool) (k : IntKind) (x : Int) : List (SV U) → (SV U → Prop) → Prop
  | [],K => K (.int k x)
  | .int _ y :: r,K => minmaxS mx k (mm mx x y) r K
  | _,_ => False
def pureStep (S : Sys U) (F : Frm U) (H : Hp U) (o : Op) (K : SV U → Prop) : Prop := match o with
  | .move x => K (evo F x)
  | .assign x => K (evo F x)
  | .pick c a b => match evo F c with
    | .bool p => (p = true → K (evo F a)) ∧ (p = false → K (evo F b))
    | _ => False
  | .binOp op t x y _ => bin S (S.td t) (S.eqs t) op (isConst x || isConst y) (evo F x) (evo F y) K
  | .unOp op _ x => match op,evo F x with
    | .not,.bool b => (b = true → K (.bool false)) ∧ (b = false → K (.bool true))
    | .neg,.int k a => arith k (0 - a) K
    | _,_ => False
  | .build t parts => match S.td t with
    | .struct fs => bif Nat.beq (lenL (S.zero t)) 0 then False else fillS fs F parts.toList (S.zero t) fun l => K (.agg l)
    | .arr n e => bif Nat.beq (lenL (S.zero t)) 0 || Nat.beq (S.size e) 0 then False else fillS (arrFs (S.size e) n 0) F parts.toList (S.zero t) fun l => K (.agg l)
    | _ => False
  | .nilCheck x => match evo F x with
    | .ptr i o => K (.ptr i o)
    | .rp c x o => K (.rp c x o)
    | .olp i j o => K (.olp i j o)
    | .func f a c => K (.func f a c)
    | .iface t x => K (.iface t x)
    | .yld l => K (.yld l)
    | _ => False
  | .makeInterface t x => match S.td t with
    | .iface => False
    | .none => False
    | _ => K (.iface t (evo F x))
  | .makeFunc (.func g) a c => K (.func g (a.toList.map (evo F)) (c.toList.map (evo F)))
  | .slice t x lo hi mx => match mx with
   | some _ => False
   | none => match S.td t,evo F x with
    | .slice e,.sl c l => (match optS F lo with
      | none => (match optS F hi with
        | some (.int _ b) => bif Nat.beq (S.size e) (S.k c) && !Nat.beq (S.size e) 0 then Chk (0 ≤ b ∧ b ≤ l.length ∧ 0 < l.length) ∧ K (.sl c (l.take b.toNat)) else False
        | _ => False)
      | some _ => False)
    | .str,.str s => match optS F lo with
      | some (.int k a) => match optS F hi with
        | some (.int k' b) => sliceStr s (some (.int k a)) (some (.int k' b)) K
        | some _ => False
        | none => sliceStr s (some (.int k a)) none K
      | some _ => False
      | none => match optS F hi with
        | some (.int k' b) => sliceStr s none (some (.int k' b)) K
        | some _ => False
        | none => K (.str s)
    | _,_ => False
  | .fieldAddr t x i => match S.td t with
    | .struct fs => fieldOf fs i fun o n _ => bif Nat.beq n 0 then False else match evo F x with
      | .ptr j p => K (.ptr j (p + o))
      | .rp c y p => K (.rp c y (p + o))
      | .olp j q p => K (.olp j q (p + o))
      | _ => False
    | _ => False
  | .field t x i => match S.td t with
    | .struct fs => fieldOf fs i fun o n u => match evo F x with
      | .agg l => bif Nat.ble (o + n) (lenL l) && !Nat.beq n 0 then (bif S.agg u then K (.agg (takeL (dropL l o) n)) else K (nth l o)) else False
      | _ => False
    | _ => False
  | .indexAddr t x i => match S.td t,evo F i with
    | .slice e,.int _ j => match evo F x with
      | .sl c l => bif Nat.beq (S.size e) (S.k c) && !Nat.beq (S.k c) 0 then Chk (0 ≤ j ∧ j < l.length) ∧ ∀ y,l[j.toNat]? = some y → K (.rp c y 0) else False
      | .ol q => match conAt H q with
        | .list _ _ _ c l => bif Nat.beq (S.size e) (S.k c) && !Nat.beq (S.k c) 0 then Chk (0 ≤ j ∧ j < l.length) ∧ K (.olp q j.toNat 0) else False
        | _ => False
      | _ => False
    | .arr n e,.int _ j => bif Nat.beq (S.size e) 0 then False else match evo F x with
      | .ptr q p => Chk (0 ≤ j ∧ j < n) ∧ K (.ptr q (p + j.toNat * S.size e))
      | .rp c y p => Chk (0 ≤ j ∧ j < n) ∧ K (.rp c y (p + j.toNat * S.size e))
      | .olp q u p => Chk (0 ≤ j ∧ j < n) ∧ K (.olp q u (p + j.toNat * S.size e))
      | _ => False
    | _,_ => False
  | .index t x i => match S.td t,evo F x,evo F i with
    | .str,.str s,.int _ j => Chk (0 ≤ j ∧ j < s.length) ∧ ∀ y,s[j.toNat]? = some y → K (.int .u8 y.toNat)
    | .arr n e,.agg l,.int _ j => bif Nat.beq (S.size e) 0 then False else Chk (0 ≤ j ∧ j < n) ∧ (bif Nat.ble (j.toNat * S.size e + S.size e) (lenL l) then (bif S.agg e then K (.agg (takeL (dropL l (j.toNat * S.size e)) (S.size e))) else K (nth l (j.toNat * S.size e))) else False)
    | _,_,_ => False
  | .typeAssert x _ t ok => match S.td t with
    | .iface => False
    | .none => False
    | _ => match evo F x with
      | .iface u v => bif Nat.beq u t then K (bif ok then .tup [v,.bool true] else v) else False
      | _ => False
  | .extract t i => match evo F t with
    | .tup l => bif Nat.ble (i + 1) (lenL l) then K (nth l i) else False
    | _ => False
  | .call ⟨.builtin .len,a,ts⟩ => match a.toList,ts.toList with
    | [x],[t] => match S.td t with
      | .str => match evo F x with
        | .str x => K (.int .i64 x.length)
        | _ => False
      | .slice _ => lenSV H (evo F x) fun n => K (.int .i64 n)
      | _ => False
    | _,_ => False
  | .call ⟨.builtin .min,a,_⟩ => match a.toList.map (evo F) with
    | .int k x :: r => minmaxS false k x r K
    | _ => False
  | .call ⟨.builtin .max,a,_⟩ => match a.toList.map (evo F) with
    | .int k x :: r => minmaxS true k x r K
    | _ => False
  | _ => False
end Go.Sx

/-
  SX, PART C: operations without memory do as told.
-/
namespace Go.Sx
open Go Go.Ev Go.RowKit
variable {U : Nat → Type}
def one : SV U → Bool
  | .undef => false
  | .skip => false
  | .agg _ => false
  | .tup _ => false
  | _ => true
def idf1 : SV U → Bool
  | .int _ _ | .bool _ | .str _ | .nilP | .nilS | .nilF | .nilI | .nilM | .sl _ _ | .rp _ _ _ => true
  | _ => false
def idf : SV U → Bool
  | .iface _ x => idf1 x
  | v => idf1 v
def StructOk (T : Tab) (S : Sys U) : List (Nat × Nat × TypeId) → List Field → Prop
  | [],[] => True
  | (o,n,u) :: fs,f :: gs => f.offset = o ∧ f.type = u ∧ T.size u = some n ∧ (∃ d,T.und u = some d ∧ isAggD d = S.agg u) ∧ StructOk T S fs gs
  | _,_ => False
structure SysOk (T : Tab) (S : Sys U) : Prop where
  str : ∀ t,S.td t = .str → T.und t = some .string
  int : ∀ t k,S.td t = .int k → T.und t = some (.int k)
  slice : ∀ t e,S.td t = .slice e → T.und t = some (.slice e)
  ptr : ∀ t e,S.td t = .ptr e → T.und t = some (.pointer e)
  bool : ∀ t,S.td t = .bool → T.und t = some .bool
  ifc : ∀ t,S.td t = .iface → ∃ m,T.und t = some (.interface m)
  fn : ∀ t,S.td t = .func → ∃ a b c,T.und t = some (.func a b c)
  struct : ∀ t fs,S.td t = .struct fs → ∃ gs,T.und t = some (.struct gs) ∧ StructOk T S fs gs.toList
  arr : ∀ t n e,S.td t = .arr n e → T.und t = some (.array n e)
  other : ∀ t,S.td t ≠ .none → S.td t ≠ .iface → ∃ d,T.und t = some d ∧ ∀ m,d ≠ .interface m
  size : ∀ t,S.size t ≠ 0 → T.size t = some (S.size t) ∧ ∃ d,T.und t = some d ∧ isAggD d = S.agg t
  bytes : ∀ t,S.bytes t ≠ 0 → T.bytes t = some (S.bytes t)
  zero : ∀ t,S.zero t ≠ [] → ∃ z,T.zero t = some z ∧ ∀ X,DenL S X (S.zero t) (cellsOf z)
  cmp : ∀ t,S.cmp t = true → T.cmp t = true ∧ ∃ k,T.und t = some (.int k)
  eqs : ∀ t gs, S.eqs t = true → T.und t = some (.struct gs) → T.eqOk t = true ∧ ∀ g ∈ gs.toList, g.name ≠ "_"
  cells : ∀ c x,(S.cells c x).length = S.k c ∧ ∀ v ∈ S.cells c x,one v = true
  idf : ∀ c x,∀ v ∈ S.cells c x,idf v = true
  of : ∀ c l x,S.of c l = some x → ∀ X vs,DenL S X l vs → DenL S X (S.cells c x) vs
section
variable {S : Sys U} {X : Env U}
theorem DenL.len {l : List (SV U)} {vs : List Value} (h : DenL S X l vs) : vs.length = l.length := by induction h <;> simp [*]
theorem lenL_eq : ∀ l : List (SV U),lenL l = l.length
  | [] => rfl
  | _ :: l => by simp [lenL,lenL_eq l]
theorem DenL.uncons {v : SV U} {l : List (SV U)} {vs : List Value} (h : DenL S X (v :: l) vs) : ∃ w ws,vs = w :: ws ∧ Den S X v w ∧ DenL S X l ws := by
  cases h with
  | undef h => exact ⟨_,_,rfl,.undef .nil,h⟩
  | skip h => exact ⟨_,_,rfl,.skip .nil,h⟩
  | int h => exact ⟨_,_,rfl,.int .nil,h⟩
  | bool h => exact ⟨_,_,rfl,.bool .nil,h⟩
  | str h => exact ⟨_,_,rfl,.str .nil,h⟩
  | nilP h => exact ⟨_,_,rfl,.nilP .nil,h⟩
  | nilS h => exact ⟨_,_,rfl,.nilS .nil,h⟩
  | nilF h => exact ⟨_,_,rfl,.nilF .nil,h⟩
  | nilI h => exact ⟨_,_,rfl,.nilI .nil,h⟩
  | nilM h => exact ⟨_,_,rfl,.nilM .nil,h⟩
  | agg h0 h => exact ⟨_,_,rfl,.agg h0 .nil,h⟩
  | tup h0 h => exact ⟨_,_,rfl,.tup h0 .nil,h⟩
  | ptr h0 h => exact ⟨_,_,rfl,.ptr h0 .nil,h⟩
  | sl h9 h0 h1 h2 h3 h => exact ⟨_,_,rfl,.sl h9 h0 h1 h2 h3 .nil,h⟩
  | ol h0 h => exact ⟨_,_,rfl,.ol h0 .nil,h⟩
  | olp h0 h => exact ⟨_,_,rfl,.olp h0 .nil,h⟩
  | rp h0 h1 h2 h3 h4 h => exact ⟨_,_,rfl,.rp h0 h1 h2 h3 h4 .nil,h⟩
  | func h0 h1 h => exact ⟨_,_,rfl,.func h0 h1 .nil,h⟩
  | yld h0 h => exact ⟨_,_,rfl,.yld h0 .nil,h⟩
  | iface h0 h => exact ⟨_,_,rfl,.iface h0 .nil,h⟩
theorem DenL.cons {v : SV U} {w : Value} {l : List (SV U)} {vs : List Value} (h : Den S X v w) (h' : DenL S X l vs) : DenL S X (v :: l) (w :: vs) := by
  cases h with
  | undef _ => exact .undef h'
  | skip _ => exact .skip h'
  | int _ => exact .int h'
  | bool _ => exact .bool h'
  | str _ => exact .str h'
  | nilP _ => exact .nilP h'
  | nilS _ => exact .nilS h'
  | nilF _ => exact .nilF h'
  | nilI _ => exact .nilI h'
  | nilM _ => exact .nilM h'
  | agg h0 _ => exact .agg h0 h'
  | tup h0 _ => exact .tup h0 h'
  | ptr h0 _ => exact .ptr h0 h'
  | sl h9 h0 h1 h2 h3 _ => exact .sl h9 h0 h1 h2 h3 h'
  | ol h0 _ => exact .ol h0 h'
  | olp h0 _ => exact .olp h0 h'
  | rp h0 h1 h2 h3 h4 _ => exact .rp h0 h1 h2 h3 h4 h'
  | func h0 h1 _ => exact .func h0 h1 h'
  | yld h0 _ => exact .yld h0 h'
  | iface h0 _ => exact .iface h0 h'
theorem DenL.nth : ∀ {l : List (SV U)} {vs : List Value} (i : Nat),DenL S X l vs → i < l.length → ∃ w,vs[i]? = some w ∧ Den S X (nth l i) w
  | [],_,i,_,h => by simp at h
  | v :: l,vs,0,h,_ => by
    obtain ⟨w,ws,rfl,h1,_⟩ := h.uncons
    exact ⟨w,rfl,h1⟩
  | v :: l,vs,i + 1,h,hi => by
    obtain ⟨w,ws,rfl,_,h2⟩ := h.uncons
    obtain ⟨w',h3,h4⟩ := DenL.nth i h2 (by simpa using hi)
    exact ⟨w',by simpa using h3,h4⟩
theorem DenL.drop : ∀ {l : List (SV U)} {vs : List Value} (i : Nat),DenL S X l vs → DenL S X (dropL l i) (vs.drop i)
  | [],vs,0,h => h
  | [],vs,i + 1,h => by cases h; exact .nil
  | v :: l,vs,0,h => h
  | v :: l,vs,i + 1,h => by
    obtain ⟨w,ws,rfl,_,h2⟩ := h.uncons
    exact DenL.drop i h2
theorem DenL.take : ∀ {l : List (SV U)} {vs : List Value} (i : Nat),DenL S X l vs → DenL S X (takeL l i) (vs.take i)
  | [],vs,0,h => by simp [takeL]; exact .nil
  | [],vs,i + 1,h => by cases h; exact .nil
  | v :: l,vs,0,h => by simp [takeL]; exact .nil
  | v :: l,vs,i + 1,h => by
    obtain ⟨w,ws,rfl,h1,h2⟩ := h.uncons
    exact DenL.cons h1 (DenL.take i h2)
theorem DenL.put : ∀ {l m : List (SV U)} {vs ws : List Value} (o : Nat),DenL S X l vs → DenL S X m ws → DenL S X (putL l o m) (putAt vs o ws)
  | l,[],vs,ws,o,h,h' => by cases h'; cases l <;> cases vs <;> cases o <;> exact h
  | [],m :: ms,vs,ws,o,h,h' => by
    cases h
    obtain ⟨w,wr,rfl,_,_⟩ := h'.uncons
    simp only [putL,putAt]; exact .nil
  | v :: l,m :: ms,vs,ws,0,h,h' => by
    obtain ⟨w,wr,rfl,h1,h2⟩ := h'.uncons
    obtain ⟨u,ur,rfl,_,h4⟩ := h.uncons
    exact DenL.cons h1 (DenL.put 0 h4 h2)
  | v :: l,m :: ms,vs,ws,o + 1,h,h' => by
    obtain ⟨w,wr,rfl,_,_⟩ := h'.uncons
    obtain ⟨u,ur,rfl,h3,h4⟩ := h.uncons
    exact DenL.cons h3 (DenL.put o h4 h')
theorem ofVal1_den (v : Value) : Den S X (ofVal1 v) v := by
  unfold ofVal1
  split <;> first | exact .int .nil | exact .bool .nil | exact .str .nil | exact .nilP .nil | exact .nilS .nil | exact .nilF .nil | exact .nilI .nil | exact .nilM .nil | exact .undef .nil
theorem ofVals_den : ∀ l : List Value,DenL S X (l.map ofVal1) l
  | [] => .nil
  | v :: l => DenL.cons (ofVal1_den v) (ofVals_den l)
theorem ofVal_den (v : Value) : Den S X (ofVal v) v := by
  unfold ofVal
  split
  · exact .agg (ofVals_den _) .nil
  · exact .tup (ofVals_den _) .nil
  · exact .iface (ofVal1_den _) .nil
  · exact ofVal1_den _
def FrmOk (S : Sys U) (X : Env U) (F : Frm U) (tmps : List Value) : Prop := ∀ t,Den S X (get F t) (tmps.getD t undef)
theorem evo_den {F : Frm U} {fr : Fr} (h : FrmOk S X F fr.tmps) (x : Operand) : Den S X (evo F x) (fr.eval x) := by
  cases x with
  | tmp t => exact h t
  | const v => exact ofVal_den v
  | global g => exact .undef .nil
  | func f => exact .func .nil .nil .nil
theorem evos_den {F : Frm U} {fr : Fr} (h : FrmOk S X F fr.tmps) : ∀ l : List Operand,DenL S X (l.map (evo F)) (l.map fr.eval)
  | [] => .nil
  | x :: l => DenL.cons (evo_den h x) (evos_den h l)
theorem cellsOf_den {v : SV U} {w : Value} (h : Den S X v w) (h1 : v ≠ .undef) : DenL S X (cellsSV v) (cellsOf w) := by
  have h' := h
  cases h with
  | undef _ => exact absurd rfl h1
  | agg h0 _ => exact h0
  | _ => exact h'
end
end Go.Sx

/-
  SX, PART D: operations without memory do as told, one by one.
-/
namespace Go.Sx
open Go Go.Ev Go.RowKit
variable {U : Nat → Type} {T : Tab} {S : Sys U} {X : Env U}
theorem bool_inv {b : Bool} {w : Value} (h : Den S X (.bool b) w) : w = .bool b := by cases h; rfl
theorem int_inv {k : IntKind} {a : Int} {w : Value} (h : Den S X (.int k a) w) : w = .int k a := by cases h; rfl
theorem str_inv {a : List UInt8} {w : Value} (h : Den S X (.str a) w) : w = .string ⟨⟨a⟩⟩ := by cases h; rfl
theorem ptr_inv {i o : Nat} {w : Value} (h : Den S X (.ptr i o) w) : ∃ N,X.ns[i]? = some (some N) ∧ w = .pointer (some ⟨N,o,none⟩) := by cases h; exact ⟨_,by assumption,rfl⟩
theorem rp_inv {c : Nat} {x : U c} {p : Nat} {w : Value} (h : Den S X (.rp c x p) w) : ∃ N b,∃ ws : List Value,∃ e hi cs,w = .pointer (some ⟨N,b + p,none⟩) ∧ X.t.get N = some (.cells ws e hi) ∧ N < X.n ∧ ¬ X.fb N ∧ Ev.slice ws b (S.k c) = some cs ∧ DenL S X (S.cells c x) cs := by cases h; exact ⟨_,_,_,_,_,_,rfl,by assumption,by assumption,by assumption,by assumption,by assumption⟩
theorem olp_inv {i j o : Nat} {w : Value} (h : Den S X (.olp i j o) w) : ∃ N p,w = .pointer (some ⟨N,p,none⟩) ∧ olpDen S X i j o N p := by cases h; exact ⟨_,_,rfl,by assumption⟩
theorem agg_inv {l : List (SV U)} {w : Value} (h : Den S X (.agg l) w) : ∃ vs,w = .agg ⟨vs⟩ ∧ DenL S X l vs := by cases h; exact ⟨_,rfl,by assumption⟩
theorem tup_inv {l : List (SV U)} {w : Value} (h : Den S X (.tup l) w) : ∃ vs,w = .tuple ⟨vs⟩ ∧ DenL S X l vs := by cases h; exact ⟨_,rfl,by assumption⟩
theorem sl_inv {c : Nat} {d : List (U c)} {w : Value} (h : Den S X (.sl c d) w) : ∃ a cap N o,∃ ws : List Value,∃ e hi,∃ cs : Nat → List Value,w = .slice a d.length cap ∧ ((a = none ∨ ∃ M p,a = some ⟨M,p,none⟩) ∧ (d.length ≤ cap ∧ cap < END ∨ cap = END + S.k c ∨ d = [] ∧ cap = END + END)) ∧ (d ≠ [] → a = some ⟨N,o,none⟩ ∧ X.t.get N = some (.cells ws e hi) ∧ N < X.n ∧ ¬ X.fb N) ∧ (∀ j x,d[j]? = some x → Ev.slice ws (o + j * S.k c) (S.k c) = some (cs j)) ∧ (∀ j x,d[j]? = some x → DenL S X (S.cells c x) (cs j)) ∧ d.length < END := by
  cases h; exact ⟨_,_,_,_,_,_,_,_,rfl,by assumption,by assumption,by assumption,by assumption,by assumption⟩
theorem iface_inv {t : TypeId} {x : SV U} {w : Value} (h : Den S X (.iface t x) w) : ∃ v,w = .iface t v ∧ Den S X x v := by cases h; exact ⟨_,rfl,by assumption⟩
theorem kind_eq {k k' : IntKind} (h : Nat.beq k.ctorIdx k'.ctorIdx = true) : k = k' := by
  have h := Nat.eq_of_beq_eq_true h
  cases k <;> cases k' <;> first | rfl | (exact absurd h (by decide))
theorem bif_true {c : Bool} {A : Prop} (h : bif c then A else False) : c = true ∧ A := by
  cases c
  · exact h.elim
  · exact ⟨rfl,h⟩
theorem beq_nat {a b : Nat} (h : Nat.beq a b = true) : a = b := Nat.eq_of_beq_eq_true h
theorem and_tt {a b : Bool} (h : (a && b) = true) : a = true ∧ b = true := by cases a <;> cases b <;> simp_all
theorem nbeq_nat {a b : Nat} (h : (!Nat.beq a b) = true) : a ≠ b := by
  intro e; subst e
  have : Nat.beq a a = true := Nat.beq_refl a
  rw [this] at h; cases h
theorem beq_dec {α : Type} [BEq α] [LawfulBEq α] [DecidableEq α] (a b : α) : (a == b) = decide (a = b) := by rw [Bool.eq_iff_iff]; simp
theorem wr64 {x : Int} (h : -9223372036854775808 ≤ x ∧ x < 9223372036854775808) : wr .i64 x = x := W_id h.1 h.2
theorem arith_ex {k : IntKind} {x : Int} {K : SV U → Prop} (h : arith k x K) : K (.int k (wr k x)) := by
  unfold arith at h
  split at h
  · exact h _ rfl wr64
  · exact h
theorem binI_sound {k : IntKind} {a b : Int} {K : SV U → Prop} {op : BinOp} (h : binI k a b K op) : ∃ sv v,K sv ∧ Den S X sv v ∧ intOp op k a k b = some v := by
  cases op with
  | add => exact ⟨_,_,arith_ex h,.int .nil,by simp [intOp,wr]⟩
  | sub => exact ⟨_,_,arith_ex h,.int .nil,by simp [intOp,wr]⟩
  | mul => exact ⟨_,_,arith_ex h,.int .nil,by simp [intOp,wr]⟩
  | quo => exact ⟨_,_,arith_ex h.2,.int .nil,by simp [intOp,wr,h.1.out]⟩
  | rem => exact ⟨_,_,h.2,.int .nil,by simp [intOp,h.1.out]⟩
  | eql => exact ⟨_,_,h (decide (a = b)) (by simp),.bool .nil,by simp [intOp,beq_dec]⟩
  | neq => exact ⟨_,_,h (decide (¬ a = b)) (by simp),.bool .nil,by simp [intOp,bne,beq_dec]⟩
  | lss => exact ⟨_,_,h (decide (a < b)) (by simp),.bool .nil,by simp [intOp]⟩
  | leq => exact ⟨_,_,h (decide (a ≤ b)) (by simp),.bool .nil,by simp [intOp]⟩
  | gtr => exact ⟨_,_,h (decide (b < a)) (by simp),.bool .nil,by simp [intOp]⟩
  | geq => exact ⟨_,_,h (decide (b ≤ a)) (by simp),.bool .nil,by simp [intOp]⟩
  | _ => exact h.elim
theorem binS_sound {a b : List UInt8} {K : SV U → Prop} {op : BinOp} (h : binS a b K op) : ∃ sv v,K sv ∧ Den S X sv v ∧ stringOp op a b = some v := by
  cases op with
  | add => exact ⟨_,_,h.2,.str .nil,by simp [stringOp,h.1.out]⟩
  | eql => exact ⟨_,_,h (decide (a = b)) (by simp),.bool .nil,by simp [stringOp,beq_dec]⟩
  | neq => exact ⟨_,_,h (decide (¬ a = b)) (by simp),.bool .nil,by simp [stringOp,beq_dec]⟩
  | _ => exact h.elim
theorem equal_int (ok : SysOk T S) {n : Nat} {u : TypeId} {k k0 : IntKind} {a b : Int} (h : S.td u = .int k0) : equalF T (n + 1) u (.int k a) (.int k b) = some (a == b) := by
  unfold equalF; rw [ok.int u _ h]; simp
theorem equal_str (ok : SysOk T S) {n : Nat} {u : TypeId} {a b : List UInt8} (h : S.td u = .str) : equalF T (n + 1) u (.string ⟨⟨a⟩⟩) (.string ⟨⟨b⟩⟩) = some (a == b) := by
  unfold equalF; rw [ok.str u h]
theorem equal_bool (ok : SysOk T S) {n : Nat} {u : TypeId} {a b : Bool} (h : S.td u = .bool) : equalF T (n + 1) u (.bool a) (.bool b) = some (a == b) := by
  unfold equalF; rw [ok.bool u h]
theorem aggEq_sound (ok : SysOk T S) {n : Nat} {xs ys : List (SV U)} {vs ws : List Value} (hx : DenL S X xs vs) (hy : DenL S X ys ws) : ∀ {fs : List (Nat × Nat × TypeId)} {gs : List Field} {K : Prop → Prop}, aggEq S xs ys fs K → StructOk T S fs gs → (∀ g ∈ gs, g.name ≠ "_") → ∃ (P : Prop) (q : Bool), K P ∧ (q = true ↔ P) ∧ fieldsEq T (equalF T (n + 1)) gs vs ws = some q
  | [],[],K,h,_,_ => ⟨True,true,h,by simp,rfl⟩
  | [],_ :: _,K,h,s,_ => s.elim
  | _ :: _,[],K,h,s,_ => s.elim
  | (o,m,u) :: fs,g :: gs,K,h,s,hn => by
    obtain ⟨s1,s2,s3,⟨d,s4,s5⟩,s6⟩ := s
    unfold aggEq at h
    obtain ⟨hc,h⟩ := bif_true h
    obtain ⟨hc1,hc2⟩ := and_tt hc
    obtain ⟨w1,e1,d1⟩ := hx.nth o (by rw [← lenL_eq]; exact Nat.le_of_ble_eq_true hc1)
    obtain ⟨w2,e2,d2⟩ := hy.nth o (by rw [← lenL_eq]; exact Nat.le_of_ble_eq_true hc2)
    have hng : g.name ≠ "_" := hn g List.mem_cons_self
    have hnr : ∀ g ∈ gs, g.name ≠ "_" := fun g hg => hn g (List.mem_cons_of_mem _ hg)
    have fin : ∀ {P0 : Prop} {q0 : Bool},(q0 = true ↔ P0) → isAggD d = false → equalF T (n + 1) u w1 w2 = some q0 → aggEq S xs ys fs (fun P => K (P0 ∧ P)) → ∃ (P : Prop) (q : Bool),K P ∧ (q = true ↔ P) ∧ fieldsEq T (equalF T (n + 1)) (g :: gs) vs ws = some q := by
      intro P0 q0 hq hd he hr
      obtain ⟨P,q,k1,k2,k3⟩ := aggEq_sound ok hx hy hr s6 hnr
      refine ⟨P0 ∧ P,q0 && q,k1,by rw [Bool.and_eq_true,hq,k2],?_⟩
      unfold fieldsEq
      rw [if_neg hng]
      have p1 : Ev.part T g.type vs g.offset = some w1 := by unfold Ev.part; rw [s2,s1,s4]; simp only [hd,Bool.false_eq_true,if_false,e1]
      have p2 : Ev.part T g.type ws g.offset = some w2 := by unfold Ev.part; rw [s2,s1,s4]; simp only [hd,Bool.false_eq_true,if_false,e2]
      rw [p1,p2]
      simp only [s2,he]
      cases q0 with
      | true => simp only [Bool.true_and]; exact k3
      | false => simp only [Bool.false_and]
    split at h
    · rename_i k0 k a k' b hd h1 h2
      rw [h1] at d1; rw [h2] at d2
      have := int_inv d1; subst this
      have := int_inv d2; subst this
      obtain ⟨hk,hr⟩ := bif_true h
      have := kind_eq hk; subst this
      have hu := ok.int u _ hd
      rw [hu] at s4; cases s4
      exact fin (q0 := a == b) beq_iff_eq rfl (equal_int ok hd) hr
    · rename_i a b hd h1 h2
      rw [h1] at d1; rw [h2] at d2
      have := str_inv d1; subst this
      have := str_inv d2; subst this
      have hu := ok.str u hd
      rw [hu] at s4; cases s4
      exact fin (q0 := a == b) beq_iff_eq rfl (equal_str ok hd) h
    · rename_i a b hd h1 h2
      rw [h1] at d1; rw [h2] at d2
      have := bool_inv d1; subst this
      have := bool_inv d2; subst this
      have hu := ok.bool u hd
      rw [hu] at s4; cases s4
      exact fin (q0 := a == b) beq_iff_eq rfl (equal_bool ok hd) h
    · exact h.elim
theorem eqK_sound (ok : SysOk T S) {t : TypeId} {c : Bool} {x y : SV U} {vx vy : Value} {K : Bool → Prop} (h : eqK S (S.td t) (S.eqs t) c x y K) (hx : Den S X x vx) (hy : Den S X y vy) : ∃ b,K b ∧ equalF T 50 t vx vy = some b ∧ nilPair c vx vy = true ∧ (∀ k a,vx ≠ .int k a) ∧ (∀ a,vx ≠ .string a) := by
  unfold eqK at h
  split at h
  · rename_i hd; cases hx; cases hy; exact ⟨_,h _ beq_iff_eq,by unfold equalF; rw [ok.bool t hd],rfl,by simp,by simp⟩
  · rename_i hd; cases hx; cases hy; exact ⟨_,h,by unfold equalF; rw [ok.ptr t _ hd]; rfl,rfl,by simp,by simp⟩
  · rename_i hd; cases hx; cases hy; exact ⟨_,h,by unfold equalF; rw [ok.ptr t _ hd]; rfl,rfl,by simp,by simp⟩
  · rename_i hd; cases hx; cases hy; exact ⟨_,h,by unfold equalF; rw [ok.ptr t _ hd],rfl,by simp,by simp⟩
  · rename_i hd; cases hx; cases hy; exact ⟨_,h,by unfold equalF; rw [ok.ptr t _ hd]; rfl,rfl,by simp,by simp⟩
  · rename_i hd; cases hx; cases hy; exact ⟨_,h,by unfold equalF; rw [ok.ptr t _ hd],rfl,by simp,by simp⟩
  · rename_i hd; cases hx; cases hy
    obtain ⟨hc,h⟩ := bif_true h
    obtain ⟨m,hm⟩ := ok.ifc t hd
    exact ⟨_,h,by unfold equalF; rw [hm],by simp [nilPair,hc],by simp,by simp⟩
  · rename_i hd; cases hx; cases hy; obtain ⟨m,hm⟩ := ok.ifc t hd; exact ⟨_,h,by unfold equalF; rw [hm],rfl,by simp,by simp⟩
  · rename_i hd; cases hx; cases hy; obtain ⟨m,hm⟩ := ok.ifc t hd; exact ⟨_,h,by unfold equalF; rw [hm],rfl,by simp,by simp⟩
  · rename_i tx k a u k' b hd
    cases hx with
    | iface h0 _ =>
      cases h0
      cases hy with
      | iface h0 _ =>
        cases h0
        obtain ⟨m,hm⟩ := ok.ifc t hd
        by_cases e : tx = u
        · subst e
          have e1 : Nat.beq tx tx = true := Nat.beq_refl tx
          rw [e1] at h
          obtain ⟨hc,hK⟩ := bif_true h
          obtain ⟨h1,h2⟩ := and_tt hc
          obtain ⟨g1,k0,g2⟩ := ok.cmp _ h1
          have := kind_eq h2; subst this
          exact ⟨_,hK (decide (a = b)) (by simp),by unfold equalF; rw [hm]; simp [g1,g2,beq_dec],rfl,by simp,by simp⟩
        · have e1 : Nat.beq tx u = false := by
            cases h0 : Nat.beq tx u with
            | false => rfl
            | true => exact absurd (beq_nat h0) e
          rw [e1] at h
          exact ⟨_,h,by unfold equalF; rw [hm]; simp [e],rfl,by simp,by simp⟩
  · rename_i hd; cases hx; cases hy; obtain ⟨a,b,c,hm⟩ := ok.fn t hd; exact ⟨_,h,by unfold equalF; rw [hm],rfl,by simp,by simp⟩
  · rename_i hd; cases hx; cases hy; obtain ⟨a,b,c,hm⟩ := ok.fn t hd; exact ⟨_,h,by unfold equalF; rw [hm],rfl,by simp,by simp⟩
  · rename_i hd; cases hx; cases hy; obtain ⟨a,b,c,hm⟩ := ok.fn t hd; exact ⟨_,h,by unfold equalF; rw [hm],rfl,by simp,by simp⟩
  · rename_i l hd
    cases hy
    cases hx with
    | @sl _ _ a cap N o ws e hi cs _ _ _ ha _ _ _ _ =>
      refine ⟨a.isNone,h _ fun hn => ?_,?_,?_,by simp,by simp⟩
      · cases l with
        | nil => rfl
        | cons y l => rw [(ha (by simp)).1] at hn; cases hn
      · unfold equalF; rw [ok.slice t _ hd]; cases a <;> rfl
      · rfl
  · rename_i hd; cases hx; cases hy; exact ⟨_,h,by unfold equalF; rw [ok.slice t _ hd]; rfl,rfl,by simp,by simp⟩
  · rename_i fs xs ys hd
    cases he : S.eqs t with
    | false => rw [he] at h; exact h.elim
    | true =>
      rw [he] at h
      obtain ⟨vs,rfl,hx'⟩ := agg_inv hx
      obtain ⟨ws,rfl,hy'⟩ := agg_inv hy
      obtain ⟨gs,g1,g2⟩ := ok.struct t fs hd
      obtain ⟨g3,g4⟩ := ok.eqs t gs he g1
      obtain ⟨P,q,k1,k2,k3⟩ := aggEq_sound (n := 48) ok hx' hy' h g2 g4
      refine ⟨q,k1 q k2,?_,rfl,by simp,by simp⟩
      unfold equalF
      rw [g1]
      simp only [g3,if_true]
      exact k3
  · exact h.elim
theorem binop_eq {t : TypeId} {c : Bool} {vx vy : Value} {b : Bool} (h : equalF T 50 t vx vy = some b) (hn : nilPair c vx vy = true) (h1 : ∀ k a,vx ≠ .int k a) (h2 : ∀ a,vx ≠ .string a) : binop T .eql t c vx vy = some (.bool b) ∧ binop T .neq t c vx vy = some (.bool !b) := by
  unfold binop
  constructor
  · split
    · exact absurd rfl (h1 _ _)
    · exact absurd rfl (h2 _)
    · simp [hn,h]
  · split
    · exact absurd rfl (h1 _ _)
    · exact absurd rfl (h2 _)
    · simp [hn,h]
theorem bin_sound (ok : SysOk T S) {t : TypeId} {op : BinOp} {c : Bool} {x y : SV U} {vx vy : Value} {K : SV U → Prop} (h : bin S (S.td t) (S.eqs t) op c x y K) (hx : Den S X x vx) (hy : Den S X y vy) : ∃ sv v,K sv ∧ Den S X sv v ∧ binop T op t c vx vy = some v := by
  unfold bin at h
  split at h
  · cases hx; cases hy
    obtain ⟨hk,hK⟩ := bif_true h
    have := kind_eq hk; subst this
    obtain ⟨sv,v,h1,h2,h3⟩ := binI_sound (S := S) (X := X) hK
    exact ⟨sv,v,h1,h2,h3⟩
  · cases hx; cases hy
    obtain ⟨sv,v,h1,h2,h3⟩ := binS_sound (S := S) (X := X) h
    exact ⟨sv,v,h1,h2,h3⟩
  · split at h
    · rename_i hop
      obtain ⟨b,h1,h2,h3,h4,h5⟩ := eqK_sound ok h hx hy
      have : op = .eql := by cases op <;> simp [isEq] at hop <;> rfl
      subst this
      exact ⟨_,_,h1,.bool .nil,(binop_eq h2 h3 h4 h5).1⟩
    · rename_i hop
      obtain ⟨b,h1,h2,h3,h4,h5⟩ := eqK_sound ok h hx hy
      have : op = .neq := by cases op <;> simp [isEq] at hop <;> rfl
      subst this
      cases b with
      | true => exact ⟨_,_,h1.1 rfl,.bool .nil,(binop_eq h2 h3 h4 h5).2⟩
      | false => exact ⟨_,_,h1.2 rfl,.bool .nil,(binop_eq h2 h3 h4 h5).2⟩
    · exact h.elim
end Go.Sx

/-
  SX, PART E: operations without memory do as told: the whole.
-/
namespace Go.Sx
open Go Go.Ev Go.RowKit
variable {U : Nat → Type} {T : Tab} {S : Sys U} {X : Env U}
theorem conAt_get : ∀ {H : Hp U} {i : Nat} {c : Con U},conAt H i = c → c ≠ .dead → H[i]? = some c
  | [],i,c,h,hd => by cases h; exact absurd rfl hd
  | a :: l,0,c,h,_ => by cases h; rfl
  | a :: l,i + 1,c,h,hd => by simpa using conAt_get (H := l) (i := i) h hd
theorem fieldOf_ex : ∀ {fs : List (Nat × Nat × TypeId)} {i : Nat} {K : Nat → Nat → TypeId → Prop},fieldOf fs i K → ∃ o n u,fs[i]? = some (o,n,u) ∧ K o n u
  | [],i,K,h => h.elim
  | (o,n,u) :: fs,0,K,h => ⟨o,n,u,rfl,h⟩
  | _ :: fs,i + 1,K,h => by simpa using fieldOf_ex (fs := fs) (i := i) h
theorem StructOk.at : ∀ {fs : List (Nat × Nat × TypeId)} {gs : List Field} {i o n : Nat} {u : TypeId},StructOk T S fs gs → fs[i]? = some (o,n,u) → ∃ g,gs[i]? = some g ∧ g.offset = o ∧ g.type = u ∧ T.size u = some n ∧ ∃ d,T.und u = some d ∧ isAggD d = S.agg u
  | [],_,i,_,_,_,_,h => by simp at h
  | (o,n,u) :: fs,[],i,_,_,_,h,_ => h.elim
  | (o,n,u) :: fs,g :: gs,0,_,_,_,h,e => by
    simp at e; obtain ⟨rfl,rfl,rfl⟩ := e
    exact ⟨g,rfl,h.1,h.2.1,h.2.2.1,h.2.2.2.1⟩
  | (o,n,u) :: fs,g :: gs,i + 1,_,_,_,h,e => by simpa using StructOk.at (i := i) h.2.2.2.2 (by simpa using e)
theorem StructOk.places : ∀ {fs : List (Nat × Nat × TypeId)} {gs : List Field},StructOk T S fs gs → fieldPlaces T gs = some (fs.map fun p => (p.1,p.2.1))
  | [],[],_ => rfl
  | [],_ :: _,h => h.elim
  | _ :: _,[],h => h.elim
  | (o,n,u) :: fs,g :: gs,h => by
    obtain ⟨h1,h2,h3,_,h5⟩ := h
    unfold fieldPlaces
    rw [h2,h3,StructOk.places h5,h1]; rfl
theorem fillS_sound {F : Frm U} {fr : Fr} (hF : FrmOk S X F fr.tmps) {fs : List (Nat × Nat × TypeId)} : ∀ {ps : List (Nat × Operand)} {l : List (SV U)} {cs : List Value} {K : List (SV U) → Prop},fillS fs F ps l K → DenL S X l cs → ∃ l' cs',K l' ∧ DenL S X l' cs' ∧ fillL (fun i => (fs.map fun p => (p.1,p.2.1))[i]?) cs (ps.map fun p => (p.1,fr.eval p.2)) = some cs'
  | [],l,cs,K,h,hd => ⟨l,cs,h,hd,rfl⟩
  | (i,x) :: ps,l,cs,K,h,hd => by
    obtain ⟨o,n,u,h1,h2⟩ := fieldOf_ex h
    have hx := evo_den hF x
    have h3 : evo F x ≠ .undef := by intro e; rw [e] at h2; exact h2
    have h4 : (Nat.beq (lenL (cellsSV (evo F x))) n && Nat.ble (o + n) (lenL l)) = true ∧ fillS fs F ps (putL l o (cellsSV (evo F x))) K := by
      revert h2 h3
      generalize evo F x = v
      intro h2 h3
      cases v <;> first | exact absurd rfl h3 | exact bif_true h2
    obtain ⟨h5,h6⟩ := h4
    obtain ⟨h7,h8⟩ := and_tt h5
    have hc := cellsOf_den hx h3
    obtain ⟨l',cs',g1,g2,g3⟩ := fillS_sound hF h6 (DenL.put o hd hc)
    refine ⟨l',cs',g1,g2,?_⟩
    have e1 : (fs.map fun p => (p.1,p.2.1))[i]? = some (o,n) := by rw [List.getElem?_map,h1]; rfl
    have e2 : (cellsOf (fr.eval x)).length = n := by rw [hc.len,← lenL_eq]; exact beq_nat h7
    have e3 : o + n ≤ cs.length := by rw [hd.len,← lenL_eq]; exact Nat.le_of_ble_eq_true h8
    simp only [List.map_cons,fillL,e1]
    rw [if_pos ⟨e2,e3⟩]; exact g3
theorem arrFs_get {sz : Nat} : ∀ (n o i : Nat),(arrFs sz n o)[i]? = if i < n then some (o + i * sz,sz,0) else none
  | 0,o,i => by simp [arrFs]
  | n + 1,o,0 => by simp [arrFs]
  | n + 1,o,i + 1 => by
    simp only [arrFs,List.getElem?_cons_succ,arrFs_get n (o + sz) i,Nat.add_lt_add_iff_right]
    split
    · rw [Nat.succ_mul]; congr 2; omega
    · rfl
theorem fillL_mono {p q : Nat → Option (Nat × Nat)} (h : ∀ i r,p i = some r → q i = some r) : ∀ {ps : List (Nat × Value)} {l r : List Value},fillL p l ps = some r → fillL q l ps = some r
  | [],l,r,e => e
  | (i,v) :: ps,l,r,e => by
    unfold fillL at e ⊢
    split at e
    · cases e
    · rename_i off size hp
      rw [h _ _ hp]
      simp only
      split at e
      · rename_i hc; rw [if_pos hc]; exact fillL_mono h e
      · cases e
theorem minmax_sound {mx : Bool} {k : IntKind} : ∀ {l : List (SV U)} {vs : List Value} {x : Int} {K : SV U → Prop},minmaxS mx k x l K → DenL S X l vs → ∃ sv v,K sv ∧ Den S X sv v ∧ minmaxFrom mx k x vs = some v
  | [],vs,x,K,h,hd => by cases hd; exact ⟨_,_,h,.int .nil,rfl⟩
  | v :: l,vs,x,K,h,hd => by
    obtain ⟨w,ws,rfl,h1,h2⟩ := hd.uncons
    cases v with
    | int k' y =>
      cases h1
      obtain ⟨sv,v,g1,g2,g3⟩ := minmax_sound (l := l) h h2
      refine ⟨sv,v,g1,g2,?_⟩
      unfold minmaxFrom
      unfold mm at g3
      cases mx <;> exact g3
    | _ => exact h.elim
theorem olDen_list {i : Nat} {w : Value} {fz ex : Bool} {e c : Nat} {l : List (U c)} (h : Den S X (.ol i) w) (hc : conAt X.H i = .list fz ex e c l) : ∃ N,X.ns[i]? = some N ∧ olVal N ex l.length (S.k c) w := by
  have := conAt_get hc (by simp)
  cases h with
  | ol h0 _ =>
    unfold olDen at h0
    rw [this] at h0
    exact h0
theorem olVal_len {N : Option Nat} {ex : Bool} {m k : Nat} {v : Value} (h : olVal N ex m k v) : ∃ a cap,v = .slice a m cap ∧ (m ≠ 0 → ∃ M,N = some M ∧ a = some ⟨M,0,none⟩) := by
  unfold olVal at h
  split at h
  · exact ⟨_,_,h,fun _ => ⟨_,rfl,rfl⟩⟩
  · obtain ⟨rfl,a,h,_⟩ := h; exact ⟨_,_,h,fun h => absurd rfl h⟩
theorem pure_sound (ok : SysOk T S) (hr : HRel S X) {F : Frm U} {fr : Fr} (hF : FrmOk S X F fr.tmps) {o : Op} {K : SV U → Prop} (h : pureStep S F X.H o K) : ∃ sv v,K sv ∧ Den S X sv v ∧ ∀ s : St,evPlain T fr.eval o s = some (v,s) := by
  have E := evo_den hF
  cases o with
  | move x => exact ⟨_,_,h,E x,fun s => rfl⟩
  | assign x => exact ⟨_,_,h,E x,fun s => rfl⟩
  | pick c a b =>
    have hc := E c
    have ha := E a
    have hb := E b
    simp only [pureStep] at h
    split at h
    · rename_i p hp
      rw [hp] at hc
      have ec := bool_inv hc
      have ev : ∀ s : St,evPlain T fr.eval (.pick c a b) s = some (if p then fr.eval a else fr.eval b,s) := fun s => by unfold evPlain; simp only [ec,pickOf,lift]
      cases p with
      | true => exact ⟨_,_,h.1 rfl,ha,ev⟩
      | false => exact ⟨_,_,h.2 rfl,hb,ev⟩
    · exact h.elim
  | binOp op t x y u =>
    obtain ⟨sv,v,h1,h2,h3⟩ := bin_sound ok h (E x) (E y)
    exact ⟨sv,v,h1,h2,fun s => by unfold evPlain; simp only [lift,h3]⟩
  | unOp op t x =>
    have hx := E x
    simp only [pureStep] at h
    split at h
    · rename_i b he; rw [he] at hx
      have e := bool_inv hx
      cases b with
      | true => exact ⟨_,_,h.1 rfl,.bool .nil,fun s => by unfold evPlain; simp only [e,unop,lift]; rfl⟩
      | false => exact ⟨_,_,h.2 rfl,.bool .nil,fun s => by unfold evPlain; simp only [e,unop,lift]; rfl⟩
    · rename_i k a he; rw [he] at hx
      have e := int_inv hx
      exact ⟨_,_,arith_ex h,.int .nil,fun s => by unfold evPlain; simp only [e,unop,lift]; rfl⟩
    · exact h.elim
  | build t parts =>
    simp only [pureStep] at h
    split at h
    · rename_i fs hd
      cases hz : Nat.beq (lenL (S.zero t)) 0 with
      | true => rw [hz] at h; exact h.elim
      | false =>
        rw [hz] at h
        obtain ⟨gs,g1,g2⟩ := ok.struct t fs hd
        obtain ⟨z,z1,z2⟩ := ok.zero t (by intro e; rw [e] at hz; cases hz)
        obtain ⟨l',cs',k1,k2,k3⟩ := fillS_sound hF h (z2 X)
        refine ⟨_,_,k1,.agg k2 .nil,fun s => ?_⟩
        unfold evPlain
        simp only [build,z1,g1,g2.places,k3,Option.map_some,lift]
    · rename_i n el hd
      cases hz : (Nat.beq (lenL (S.zero t)) 0 || Nat.beq (S.size el) 0) with
      | true => rw [hz] at h; exact h.elim
      | false =>
        rw [hz] at h
        have hz1 : Nat.beq (lenL (S.zero t)) 0 = false := by cases hq : Nat.beq (lenL (S.zero t)) 0 <;> simp_all
        have hz2 : S.size el ≠ 0 := by intro e; rw [e] at hz; simp at hz
        obtain ⟨z,z1,z2⟩ := ok.zero t (by intro e; rw [e] at hz1; cases hz1)
        obtain ⟨l',cs',k1,k2,k3⟩ := fillS_sound hF h (z2 X)
        refine ⟨_,_,k1,.agg k2 .nil,fun s => ?_⟩
        have k4 := fillL_mono (q := fun i => some (i * S.size el,S.size el)) (fun i r hr => by
          rw [List.getElem?_map,arrFs_get] at hr
          split at hr
          · simp at hr; rw [← hr]
          · cases hr) k3
        unfold evPlain
        simp only [build,z1,ok.arr t n el hd,(ok.size el hz2).1,k4,Option.map_some,lift]
    · exact h.elim
  | nilCheck x =>
    have hx := E x
    simp only [pureStep] at h
    have : ∃ sv,K sv ∧ Den S X sv (fr.eval x) ∧ nilChecked (fr.eval x) = some (fr.eval x) := by
      split at h
      · rename_i he; rw [he] at hx; refine ⟨_,h,hx,?_⟩; generalize fr.eval x = w at hx; cases hx; rfl
      · rename_i he; rw [he] at hx; refine ⟨_,h,hx,?_⟩; generalize fr.eval x = w at hx; cases hx; rfl
      · rename_i he; rw [he] at hx; refine ⟨_,h,hx,?_⟩; generalize fr.eval x = w at hx; cases hx; rfl
      · rename_i he; rw [he] at hx; refine ⟨_,h,hx,?_⟩; generalize fr.eval x = w at hx; cases hx; rfl
      · rename_i he; rw [he] at hx; refine ⟨_,h,hx,?_⟩; generalize fr.eval x = w at hx; cases hx; rfl
      · rename_i he; rw [he] at hx; refine ⟨_,h,hx,?_⟩; generalize fr.eval x = w at hx; cases hx; rfl
      · exact h.elim
    obtain ⟨sv,h1,h2,h3⟩ := this
    exact ⟨sv,_,h1,h2,fun s => by unfold evPlain; simp only [h3,lift]⟩
  | makeInterface t x =>
    simp only [pureStep] at h
    have : S.td t ≠ .none ∧ S.td t ≠ .iface ∧ K (.iface t (evo F x)) := by
      split at h
      · exact h.elim
      · exact h.elim
      · rename_i h1 h2; exact ⟨h2,h1,h⟩
    obtain ⟨h1,h2,h3⟩ := this
    obtain ⟨d,g1,g2⟩ := ok.other t h1 h2
    refine ⟨_,.iface t (fr.eval x),h3,.iface (E x) .nil,fun s => ?_⟩
    unfold evPlain
    simp only [lift]
    unfold makeIface
    rw [g1]
    cases d with
    | interface m => exact absurd rfl (g2 m)
    | _ => rfl
  | makeFunc f a c =>
    cases f with
    | func g => exact ⟨_,_,h,.func (evos_den hF _) (evos_den hF _) .nil,fun s => rfl⟩
    | _ => exact h.elim
  | slice t x lo hi mx =>
    simp only [pureStep] at h
    cases mx with
    | some _ => exact h.elim
    | none =>
      simp only at h
      have oi : ∀ (q : Option Operand) (k : IntKind) (a : Int),optS F q = some (.int k a) → q.map fr.eval = some (.int k a) := by
        intro q k a hq
        cases q with
        | none => cases hq
        | some y =>
          have hy := E y
          simp only [optS,Option.some.injEq] at hq
          rw [hq] at hy
          cases hy' : fr.eval y <;> rw [hy'] at hy <;> cases hy
          simp only [Option.map_some,hy']
      have on : ∀ q : Option Operand,optS F q = none → q.map fr.eval = none := by
        intro q hq; cases q with
        | none => rfl
        | some y => cases hq
      split at h
      · rename_i e c l hd hs
        have hx := E x
        rw [hs] at hx
        split at h
        · rename_i hlo
          split at h
          · rename_i k b hb
            obtain ⟨hc,h⟩ := bif_true h
            obtain ⟨hc1,hc2⟩ := and_tt hc
            obtain ⟨hq,h4⟩ := h
            obtain ⟨h1,h2,hpos⟩ := hq.out
            have hk := beq_nat hc1
            have hsz := (ok.size e (nbeq_nat hc2)).1
            obtain ⟨a,cap,N,o,ws,e',hi',cs,hw,q0,q1,q2,q3,q4⟩ := sl_inv hx
            have hlo' := on _ hlo
            have hb' := oi _ _ _ hb
            have hbn : b.toNat ≤ l.length := by omega
            have hmap : a.map (fun x => (⟨x.block,x.off + 0 * S.size e,none⟩ : Addr)) = a := by
              rcases q0.1 with rfl | ⟨M,p,rfl⟩
              · rfl
              · simp
            have hlt : (l.take b.toNat).length = b.toNat := by simp; omega
            have run : ∀ st : St,evPlain T fr.eval (.slice t x lo hi none) st = some (.slice a (l.take b.toNat).length cap,st) := by
              intro st
              unfold evPlain
              simp only [Option.isSome_none,Bool.false_and,Bool.false_eq_true,if_false,Option.map_none]
              unfold sliceOp
              have hbb : bound (hi.map fr.eval) l.length = some b.toNat := by rw [hb']; simp [bound,h1]
              have hll : bound (lo.map fr.eval) 0 = some 0 := by rw [hlo']; rfl
              simp only [ok.slice t e hd,hw,hsz,hll,hbb,hlt]
              rcases q0.2 with ⟨g1,g2⟩ | g | ⟨g,_⟩
              rotate_right
              · rw [g] at hpos; exact absurd hpos (Nat.lt_irrefl 0)
              · rw [if_neg (by omega),if_pos ⟨Nat.zero_le _,by omega⟩,hmap]
                simp only [ite_self,Nat.sub_zero,lift]
              · rw [if_pos (by omega),if_pos ⟨by rw [g,hk],Nat.zero_le _,hbn⟩]
                by_cases hz : 0 < b.toNat
                · rw [if_pos hz,hmap]; rfl
                · have : b.toNat = 0 := by omega
                  rw [if_neg hz,if_pos trivial,this]; rfl
            refine ⟨_,_,h4,?_,run⟩
            have hget : ∀ {j : Nat} {y : U c},(l.take b.toNat)[j]? = some y → l[j]? = some y := fun {j y} hj => by
              rw [List.getElem?_take] at hj
              split at hj
              · exact hj
              · cases hj
            refine DenL.sl (N := N) (o := o) (ws := ws) (e := e') (hi := hi') (cs := cs) ⟨q0.1,?_⟩ (fun hne => q1 fun h => hne (by rw [h]; simp)) (fun j y hj => q2 j y (hget hj)) (fun j y hj => q3 j y (hget hj)) (by omega) .nil
            rcases q0.2 with ⟨g1,g2⟩ | g | ⟨g,_⟩
            · exact .inl ⟨by omega,g2⟩
            · exact .inr (.inl g)
            · rw [g] at hpos; exact absurd hpos (Nat.lt_irrefl 0)
          · exact h.elim
        · exact h.elim
      · rename_i s hd hs
        have hx := E x
        rw [hs] at hx
        have e := str_inv hx
        have hu := ok.str t hd
        have main : ∀ (l u : Nat),bound (lo.map fr.eval) 0 = some l → bound (hi.map fr.eval) s.length = some u → l ≤ u → u ≤ s.length → ∀ st : St,evPlain T fr.eval (.slice t x lo hi none) st = some (.string ⟨⟨(s.drop l).take (u - l)⟩⟩,st) := by
          intro l u h1 h2 h3 h4 st
          unfold evPlain
          simp only [Option.isSome_none,Bool.false_and,Bool.false_eq_true,if_false,e,Option.map_none]
          unfold sliceOp
          simp only [hu,h1]
          have : bound (hi.map fr.eval) s.length = some u := h2
          simp only [this,Option.isNone_none,true_and,h3,h4,and_self,if_true,lift]
        split at h
        · rename_i k a ha
          have ha' := oi _ _ _ ha
          split at h
          · rename_i k' b hb
            have hb' := oi _ _ _ hb
            obtain ⟨hq,h4⟩ := h
            obtain ⟨h1,h2,h3⟩ := hq.out
            refine ⟨_,_,h4,.str .nil,main a.toNat b.toNat ?_ ?_ (by omega) (by omega)⟩
            · rw [ha']; simp [bound,h1]
            · rw [hb']; simp [bound]; omega
          · exact h.elim
          · rename_i hb
            have hb' := on _ hb
            obtain ⟨hq,h4⟩ := h
            obtain ⟨h1,h2⟩ := hq.out
            have hm := main a.toNat s.length (by rw [ha']; simp [bound,h1]) (by rw [hb']; rfl) (by omega) (Nat.le_refl _)
            rw [List.take_of_length_le (by simp)] at hm
            exact ⟨_,_,h4,.str .nil,hm⟩
        · exact h.elim
        · rename_i ha
          have ha' := on _ ha
          split at h
          · rename_i k' b hb
            have hb' := oi _ _ _ hb
            obtain ⟨hq,h4⟩ := h
            obtain ⟨h1,h2⟩ := hq.out
            have hm := main 0 b.toNat (by rw [ha']; rfl) (by rw [hb']; simp [bound,h1]) (Nat.zero_le _) (by omega)
            simp only [List.drop_zero,Nat.sub_zero] at hm
            exact ⟨_,_,h4,.str .nil,hm⟩
          · exact h.elim
          · rename_i hb
            have hb' := on _ hb
            have hm := main 0 s.length (by rw [ha']; rfl) (by rw [hb']; rfl) (Nat.zero_le _) (Nat.le_refl _)
            simp only [List.drop_zero,Nat.sub_zero,List.take_length] at hm
            exact ⟨_,_,h,.str .nil,hm⟩
      · exact h.elim
  | fieldAddr t x i =>
    simp only [pureStep] at h
    split at h
    · rename_i fs hd
      obtain ⟨gs,g1,g2⟩ := ok.struct t fs hd
      obtain ⟨o,n,u,h1,h2⟩ := fieldOf_ex h
      obtain ⟨g,e1,e2,e3,e4,_⟩ := g2.at h1
      cases hn : Nat.beq n 0 with
      | true => rw [hn] at h2; exact h2.elim
      | false =>
        rw [hn] at h2
        have hn0 : n ≠ 0 := by intro e; subst e; cases hn
        obtain ⟨n',rfl⟩ : ∃ n',n = n' + 1 := ⟨n - 1,by omega⟩
        have fa : ∀ N p,fr.eval x = .pointer (some ⟨N,p,none⟩) → ∀ s : St,evPlain T fr.eval (.fieldAddr t x i) s = some (.pointer (some ⟨N,p + o,none⟩),s) := by
          intro N p hx s
          unfold evPlain
          simp only [lift]
          unfold fieldAddr
          have e1' : gs[i]? = some g := by rw [← Array.getElem?_toList]; exact e1
          simp only [g1,hx,e1',e3,e4,e2]
        have hx := E x
        simp only [cond_false] at h2
        split at h2
        · rename_i he; rw [he] at hx
          obtain ⟨N,hN,hw⟩ := ptr_inv hx
          exact ⟨_,_,h2,.ptr hN .nil,fa _ _ hw⟩
        · rename_i he; rw [he] at hx
          obtain ⟨N,b,ws,e,hi,cs,hw,q1,q2,q3,q4,q5⟩ := rp_inv hx
          have := fa _ _ hw
          refine ⟨_,_,h2,?_,this⟩
          rw [Nat.add_assoc]
          exact .rp q1 q2 q3 q4 q5 .nil
        · rename_i j q p he; rw [he] at hx
          obtain ⟨N,p',hw,hq⟩ := olp_inv hx
          refine ⟨_,_,h2,.olp (N := N) (p := p' + o) ?_ .nil,fa _ _ hw⟩
          unfold olpDen at hq ⊢
          split at hq
          · exact ⟨hq.1,by rw [hq.2,Nat.add_assoc]⟩
          · trivial
          · exact hq.elim
        · exact h2.elim
    · exact h.elim
  | field t x i =>
    simp only [pureStep] at h
    split at h
    · rename_i fs hd
      obtain ⟨gs,g1,g2⟩ := ok.struct t fs hd
      obtain ⟨o,n,u,h1,h2⟩ := fieldOf_ex h
      obtain ⟨g,e1,e2,e3,e4,d,e5,e6⟩ := g2.at h1
      have hx := E x
      split at h2
      · rename_i l he
        rw [he] at hx
        obtain ⟨vs,hw,hl⟩ := agg_inv hx
        obtain ⟨hc,h2⟩ := bif_true h2
        obtain ⟨hc1,hc2⟩ := and_tt hc
        have hc1 : o + n ≤ l.length := by rw [← lenL_eq]; exact Nat.le_of_ble_eq_true hc1
        have e1' : gs[i]? = some g := by rw [← Array.getElem?_toList]; exact e1
        have hn : n ≠ 0 := nbeq_nat hc2
        cases ha : S.agg u with
        | true =>
          rw [ha] at h2
          refine ⟨_,.agg ⟨(vs.drop o).take n⟩,h2,.agg ((hl.drop o).take n) .nil,fun s => ?_⟩
          unfold evPlain
          simp only [lift]
          unfold field
          simp only [g1,hw,e1',e2,e3]
          unfold Ev.part
          simp only [e5,e6,ha,if_true,e4]
        | false =>
          rw [ha] at h2
          obtain ⟨w,k1,k2⟩ := hl.nth o (by omega)
          refine ⟨_,w,h2,k2,fun s => ?_⟩
          unfold evPlain
          simp only [lift]
          unfold field
          simp only [g1,hw,e1',e2,e3]
          unfold Ev.part
          simp only [e5,e6,ha,Bool.false_eq_true,if_false,k1]
      · exact h2.elim
    · exact h.elim
  | indexAddr t x i =>
    simp only [pureStep] at h
    split at h
    · rename_i e k j hd hi
      have hi' := E i
      rw [hi] at hi'
      have ei := int_inv hi'
      have hu := ok.slice t e hd
      have hx := E x
      have main : ∀ (a : Option Addr) (len cap N p n : Nat),fr.eval x = .slice a len cap → a = some ⟨N,p,none⟩ → T.size e = some n → 0 ≤ j → j < len → ∀ s : St,evPlain T fr.eval (.indexAddr t x i) s = some (.pointer (some ⟨N,p + j.toNat * n,none⟩),s) := by
        intro a len cap N p n h1 h2 h3 h4 h5 s
        subst h2
        unfold evPlain
        simp only [lift]
        unfold indexAddr
        simp only [hu,h1,ei,h3]
        rw [if_pos ⟨h4,h5⟩]
      split at h
      · rename_i c l he
        rw [he] at hx
        obtain ⟨hc,h⟩ := bif_true h
        obtain ⟨hc1,hc2⟩ := and_tt hc
        obtain ⟨a,cap,N,p,ws,e',hi,cs,hw,_,q1,q2,q3,q4⟩ := sl_inv hx
        obtain ⟨hq,h3⟩ := h
        obtain ⟨h1,h2⟩ := hq.out
        have hk := beq_nat hc1
        have hsz := (ok.size e (by rw [hk]; exact nbeq_nat hc2)).1
        have hl : l ≠ [] := by intro e0; subst e0; simp at h2; omega
        obtain ⟨ha,g1,g2,g3⟩ := q1 hl
        have hj : j.toNat < l.length := by omega
        have hy : l[j.toNat]? = some l[j.toNat] := List.getElem?_eq_getElem hj
        refine ⟨_,_,h3 _ hy,?_,main a _ cap N p _ hw ha hsz h1 h2⟩
        have := DenL.rp (S := S) (X := X) (p := 0) g1 g2 g3 (q2 _ _ hy) (q3 _ _ hy) .nil
        rw [hk]; exact this
      · rename_i q he
        rw [he] at hx
        split at h
        · rename_i fz ex e' c l hcon
          obtain ⟨hc,h⟩ := bif_true h
          obtain ⟨hc1,hc2⟩ := and_tt hc
          obtain ⟨hq,h3⟩ := h
          obtain ⟨h1,h2⟩ := hq.out
          have hk := beq_nat hc1
          have hsz := (ok.size e (by rw [hk]; exact nbeq_nat hc2)).1
          obtain ⟨N,k1,k2⟩ := olDen_list hx hcon
          obtain ⟨a,cap,hw,ha⟩ := olVal_len k2
          obtain ⟨M,rfl,ha2⟩ := ha (by omega)
          refine ⟨_,_,h3,.olp (N := M) (p := 0 + j.toNat * S.size e) ?_ .nil,main a _ cap M 0 _ hw ha2 hsz h1 h2⟩
          unfold olpDen
          rw [conAt_get hcon (by simp)]
          exact ⟨k1,by rw [hk]; simp⟩
        · exact h.elim
      · exact h.elim
    · rename_i n e k j hd hi
      have hi' := E i
      rw [hi] at hi'
      have ei := int_inv hi'
      have hu := ok.arr t n e hd
      have hx := E x
      cases hz : Nat.beq (S.size e) 0 with
      | true => rw [hz] at h; exact h.elim
      | false =>
        rw [hz] at h
        have hsz := (ok.size e (by intro e'; rw [e'] at hz; cases hz)).1
        have main : ∀ (N p : Nat),fr.eval x = .pointer (some ⟨N,p,none⟩) → 0 ≤ j ∧ j < n → ∀ s : St,evPlain T fr.eval (.indexAddr t x i) s = some (.pointer (some ⟨N,p + j.toNat * S.size e,none⟩),s) := by
          intro N p h1 h2 s
          unfold evPlain
          simp only [lift]
          unfold indexAddr
          simp only [hu,h1,ei,hsz]
          rw [if_pos h2]
        simp only [cond_false] at h
        split at h
        · rename_i he; rw [he] at hx
          obtain ⟨hq,h⟩ := h
          obtain ⟨N,hN,hw⟩ := ptr_inv hx
          exact ⟨_,_,h,.ptr hN .nil,main _ _ hw hq.out⟩
        · rename_i he; rw [he] at hx
          obtain ⟨hq,h⟩ := h
          obtain ⟨N,b,ws,e',hi,cs,hw,q1,q2,q3,q4,q5⟩ := rp_inv hx
          refine ⟨_,_,h,?_,main _ _ hw hq.out⟩
          rw [Nat.add_assoc]
          exact .rp q1 q2 q3 q4 q5 .nil
        · rename_i a u p he; rw [he] at hx
          obtain ⟨hc,h⟩ := h
          obtain ⟨N,p',hw,hq⟩ := olp_inv hx
          refine ⟨_,_,h,.olp (N := N) (p := p' + j.toNat * S.size e) ?_ .nil,main _ _ hw hc.out⟩
          unfold olpDen at hq ⊢
          split at hq
          · exact ⟨hq.1,by rw [hq.2,Nat.add_assoc]⟩
          · trivial
          · exact hq.elim
        · exact h.elim
    · exact h.elim
  | index t x i =>
    simp only [pureStep] at h
    split at h
    · rename_i s k j hd hs hi
      have hx := E x
      rw [hs] at hx
      have ex := str_inv hx
      have hi' := E i
      rw [hi] at hi'
      have ei := int_inv hi'
      obtain ⟨hq,h3⟩ := h
      obtain ⟨h1,h2⟩ := hq.out
      have hj : j.toNat < s.length := by omega
      have hy : s[j.toNat]? = some s[j.toNat] := List.getElem?_eq_getElem hj
      refine ⟨_,_,h3 _ hy,.int .nil,fun st => ?_⟩
      unfold evPlain
      simp only [lift]
      unfold index
      simp only [ok.str t hd,ex,ei,h1,if_true,hy,Option.map_some]
    · rename_i n el l k j hd hs hi
      have hx := E x
      rw [hs] at hx
      obtain ⟨vs,hw,hl⟩ := agg_inv hx
      have hi' := E i
      rw [hi] at hi'
      have ei := int_inv hi'
      cases hz : Nat.beq (S.size el) 0 with
      | true => rw [hz] at h; exact h.elim
      | false =>
        rw [hz] at h
        have hn : S.size el ≠ 0 := by intro e'; rw [e'] at hz; cases hz
        obtain ⟨hsz,d,e5,e6⟩ := ok.size el hn
        obtain ⟨hq,h⟩ := h
        have hq := hq.out
        obtain ⟨hc,h⟩ := bif_true h
        have hc1 : j.toNat * S.size el + S.size el ≤ l.length := by rw [← lenL_eq]; exact Nat.le_of_ble_eq_true hc
        cases ha : S.agg el with
        | true =>
          rw [ha] at h
          refine ⟨_,.agg ⟨(vs.drop (j.toNat * S.size el)).take (S.size el)⟩,h,.agg ((hl.drop _).take _) .nil,fun s => ?_⟩
          unfold evPlain
          simp only [lift]
          unfold index
          simp only [ok.arr t n el hd,hw,ei,hsz]
          rw [if_pos hq]
          unfold Ev.part
          simp only [e5,e6,ha,if_true,hsz]
        | false =>
          rw [ha] at h
          obtain ⟨w,k1,k2⟩ := hl.nth (j.toNat * S.size el) (by omega)
          refine ⟨_,w,h,k2,fun s => ?_⟩
          unfold evPlain
          simp only [lift]
          unfold index
          simp only [ok.arr t n el hd,hw,ei,hsz]
          rw [if_pos hq]
          unfold Ev.part
          simp only [e5,e6,ha,Bool.false_eq_true,if_false,k1]
    · exact h.elim
  | typeAssert x a t q =>
    simp only [pureStep] at h
    have : S.td t ≠ .none ∧ S.td t ≠ .iface ∧ (match evo F x with
      | .iface u v => bif Nat.beq u t then K (bif q then .tup [v,.bool true] else v) else False
      | _ => False) := by
      split at h
      · exact h.elim
      · exact h.elim
      · rename_i h1 h2; exact ⟨h2,h1,h⟩
    obtain ⟨h1,h2,h3⟩ := this
    obtain ⟨d,g1,g2⟩ := ok.other t h1 h2
    have hx := E x
    split at h3
    · rename_i u v he
      rw [he] at hx
      obtain ⟨w,hw,hv⟩ := iface_inv hx
      obtain ⟨hc,hK⟩ := bif_true h3
      have := beq_nat hc; subst this
      cases q with
      | true =>
        refine ⟨_,.tuple #[w,.bool true],hK,.tup (DenL.cons hv (.bool .nil)) .nil,fun s => ?_⟩
        unfold evPlain
        simp only [lift]
        unfold typeAssert
        rw [g1,hw]
        cases d with
        | interface m => exact absurd rfl (g2 m)
        | _ => simp
      | false =>
        refine ⟨_,w,hK,hv,fun s => ?_⟩
        unfold evPlain
        simp only [lift]
        unfold typeAssert
        rw [g1,hw]
        cases d with
        | interface m => exact absurd rfl (g2 m)
        | _ => simp
    · exact h3.elim
  | extract x i =>
    simp only [pureStep] at h
    have hx := E x
    split at h
    · rename_i l he
      rw [he] at hx
      obtain ⟨vs,hw,hl⟩ := tup_inv hx
      obtain ⟨hc,h⟩ := bif_true h
      obtain ⟨w,k1,k2⟩ := hl.nth i (by rw [← lenL_eq]; exact Nat.le_of_ble_eq_true hc)
      exact ⟨_,w,h,k2,fun s => by unfold evPlain; simp only [hw,extractOf,k1,lift]⟩
    · exact h.elim
  | call c =>
    obtain ⟨f,a,ts⟩ := c
    cases f with
    | builtin b =>
      cases b with
      | len =>
        simp only [pureStep] at h
        split at h
        · rename_i x t ha ht
          have hx := E x
          have main : ∀ n : Nat,Ev.len T [t] [fr.eval x] = ret (goInt n) → ∀ s : St,evPlain T fr.eval (.call ⟨.builtin .len,a,ts⟩) s = some (.int .i64 n,s) := by
            intro n hn s
            unfold evPlain
            simp only [ha,ht,List.map_cons,List.map_nil]; unfold Ev.builtin; simp only [hn]; rfl
          split at h
          · rename_i hd
            split at h
            · rename_i s he
              rw [he] at hx
              have ex := str_inv hx
              exact ⟨_,_,h,.int .nil,main _ (by unfold Ev.len; simp only [ok.str t hd,ex])⟩
            · exact h.elim
          · rename_i e hd
            have hu := ok.slice t e hd
            have fin : ∀ (q : Option Addr) (m cap : Nat),fr.eval x = .slice q m cap → Ev.len T [t] [fr.eval x] = ret (goInt m) := by
              intro q m cap hw; unfold Ev.len; simp only [hu,hw]
            unfold lenSV at h
            split at h
            · rename_i he
              rw [he] at hx
              have hw : fr.eval x = .slice none 0 0 := by generalize fr.eval x = w at hx; cases hx; rfl
              exact ⟨_,_,h,.int .nil,main _ (fin _ _ _ hw)⟩
            · rename_i l he
              rw [he] at hx
              obtain ⟨q,cap,N,p,ws,e',hi,cs,hw,_,_,_,_,hlt⟩ := sl_inv hx
              exact ⟨_,_,h hlt,.int .nil,main _ (fin _ _ _ hw)⟩
            · rename_i q he
              rw [he] at hx
              split at h
              · rename_i hcon
                obtain ⟨N,k1,k2⟩ := olDen_list hx hcon
                obtain ⟨q,cap,hw,_⟩ := olVal_len k2
                exact ⟨_,_,h (hr.ok _ _ _ (conAt_get hcon (by simp)) k1).1,.int .nil,main _ (fin _ _ _ hw)⟩
              · exact h.elim
            · exact h.elim
          · exact h.elim
        · exact h.elim
      | min =>
        simp only [pureStep] at h
        have hA := evos_den hF a.toList
        split at h
        · rename_i k x r he
          rw [he] at hA
          obtain ⟨w,ws,e1,e2,e3⟩ := hA.uncons
          have e4 := int_inv e2
          subst e4
          obtain ⟨sv,v,g1,g2,g3⟩ := minmax_sound h e3
          exact ⟨sv,v,g1,g2,fun s => by unfold evPlain; simp only; unfold Ev.builtin; simp only [e1,Ev.minmax,lift,g3]⟩
        · exact h.elim
      | max =>
        simp only [pureStep] at h
        have hA := evos_den hF a.toList
        split at h
        · rename_i k x r he
          rw [he] at hA
          obtain ⟨w,ws,e1,e2,e3⟩ := hA.uncons
          have e4 := int_inv e2
          subst e4
          obtain ⟨sv,v,g1,g2,g3⟩ := minmax_sound h e3
          exact ⟨sv,v,g1,g2,fun s => by unfold evPlain; simp only; unfold Ev.builtin; simp only [e1,Ev.minmax,lift,g3]⟩
        · exact h.elim
      | _ => exact h.elim
    | _ => exact h.elim
  | _ => exact h.elim
end Go.Sx

/-
  SX, PART F: the symbolic walk: memory, calls, regions, code.
-/
namespace Go.Sx
open Go Go.Ev Go.RowKit
variable {U : Nat → Type}
def resL (H : Hp U) : List (SV U) → (List (SV U) → Hp U → Prop) → Prop
  | [],K => K [] H
  | v :: l,K => resL H l fun l H => match v with
    | .ol i => match conAt H i with
      | .list _ ex e c d => K (.sl c d :: l) (setC H i (.list true ex e c d))
      | _ => False
    | v => K (v :: l) H
def castL {c d : Nat} (l : List (U c)) (K : List (U d) → Prop) : Prop := match Nat.decEq c d with
  | .isTrue h => (h ▸ K : List (U c) → Prop) l
  | .isFalse _ => False
def known : SV U → Bool
  | .undef => false
  | .skip => false
  | _ => true
def elemsS (S : Sys U) (F : Frm U) (c n : Nat) : Nat → List (Nat × Operand) → Hp U → (List (U c) → Hp U → Prop) → Prop
  | i,[],H,K => bif Nat.beq i n then K [] H else False
  | i,(j,x) :: ps,H,K => bif Nat.beq i j && known (evo F x) then resL H (cellsSV (evo F x)) fun cs H => match S.of c cs with
    | some y => elemsS S F c n (Nat.succ i) ps H fun l H => K (y :: l) H
    | none => False
   else False
def oneL (l : List (SV U)) : Bool := l.all one
def layStep (S : Sys U) (F : Frm U) (H : Hp U) (o : Op) (K : SV U → Hp U → Prop) : Prop := match o with
  | .alloc e => bif Nat.beq (lenL (S.zero e)) 0 then False else K (.ptr (lenH H) 0) (snoc H (.cells false e (S.zero e)))
  | .box e x => bif known (evo F x) then K (.ptr (lenH H) 0) (snoc H (.cells false e (cellsSV (evo F x)))) else False
  | .buildSlice t n ps => match S.td t with
    | .slice e => bif Nat.beq (S.size e) (S.k (S.ty e)) && !Nat.beq (S.size e) 0 && Nat.beq (lenL (S.zero e)) (S.size e) && Nat.ble (n * S.size e) 16777216 then
        elemsS S F (S.ty e) n 0 ps.toList H fun l H => K (.ol (lenH H)) (snoc H (.list false true e (S.ty e) l))
      else False
    | _ => False
  | .makeSlice t l c => match S.td t,evo F l,evo F c with
    | .slice e,.int _ a,.int _ b => bif Nat.beq (S.size e) (S.k (S.ty e)) && !Nat.beq (S.size e) 0 && Nat.beq (lenL (S.zero e)) (S.size e) && !Nat.beq (S.bytes e) 0 then
        match S.of (S.ty e) (S.zero e) with
        | some z => Chk (a = b ∧ 0 ≤ a ∧ S.bytes e * a ≤ 140737488355328) ∧ K (.ol (lenH H)) (snoc H (.list false true e (S.ty e) (List.replicate a.toNat z)))
        | none => False
      else False
    | _,_,_ => False
  | _ => False
def loadCells (S : Sys U) (t : TypeId) (vs : List (SV U)) (o : Nat) (K : SV U → Prop) : Prop :=
  bif !Nat.beq (S.size t) 0 && Nat.ble (o + S.size t) (lenL vs) then (bif S.agg t then K (.agg (takeL (dropL vs o) (S.size t))) else K (nth vs o)) else False
def loadStep (S : Sys U) (F : Frm U) (H : Hp U) (o : Op) (K : SV U → Prop) : Prop := match o with
  | .load t a => match evo F a with
    | .ptr i o => match conAt H i with
      | .cells _ _ vs => loadCells S t vs o K
      | _ => False
    | .rp c x o => loadCells S t (S.cells c x) o K
    | .olp i j o => match conAt H i with
      | .list _ _ _ c l => Chk (j < l.length) ∧ ∀ x,l[j]? = some x → loadCells S t (S.cells c x) o K
      | _ => False
    | _ => False
  | _ => False
def listOf (H : Hp U) (c : Nat) (v : SV U) (K : List (U c) → Prop) : Prop := match v with
  | .nilS => K []
  | .sl _ l => castL l K
  | .ol i => match conAt H i with
    | .list _ _ _ _ l => castL l K
    | _ => False
  | _ => False
def appK (S : Sys U) (e : TypeId) (l1 l2 : List (U (S.ty e))) (H : Hp U) (K : SV U → Hp U → Prop) : Prop :=
  Chk ((l1.length + l2.length) * S.bytes e ≤ 140737488355328) ∧ K (.ol (lenH H)) (snoc H (.list false false e (S.ty e) (l1 ++ l2)))
def isNilL {α : Type} : List α → Bool
  | [] => true
  | _ => false
def appS (S : Sys U) (H : Hp U) (e : TypeId) (base x : SV U) (K : SV U → Hp U → Prop) : Prop := match base with
  | .nilS => listOf H (S.ty e) x fun l => appK S e [] l H K
  | .ol i => match conAt H i with
    | .list false false e' _ d => bif !Nat.beq e' e then False else castL d fun l1 => listOf H (S.ty e) x fun l2 => appK S e l1 l2 (setC H i .dead) K
    | .list _ true _ _ d => castL d fun l1 => listOf H (S.ty e) x fun l2 => bif isNilL l1 || !isNilL l2 then appK S e l1 l2 H K else False
    | _ => False
  | _ => False
structure Spec (U : Nat → Type) where
  wr : Bool
  run : Hp U → List (SV U) → (SV U → Hp U → Prop) → Prop
def viewB (S : Sys U) (H : Hp U) (v : SV U) : SV U := match v with
  | .ptr i 0 => (match conAt H i with
    | .cells _ e vs => (match S.of (S.ty e) vs with
      | some x => .rp (S.ty e) x 0
      | none => .ptr i 0)
    | _ => .ptr i 0)
  | v => v
def mapSV (f : SV U → SV U) : List (SV U) → List (SV U)
  | [] => []
  | v :: l => f v :: mapSV f l
def viewL (S : Sys U) (H : Hp U) : List (SV U) → List (SV U)
  | [] => []
  | .ol i :: l => (match conAt H i with
    | .list _ _ _ c d => .sl c d
    | _ => .ol i) :: viewL S H l
  | .func g a c :: l => .func g (mapSV (viewB S H) a) (mapSV (viewB S H) c) :: viewL S H l
  | v :: l => v :: viewL S H l
def boxOf : SV U → List Nat
  | .ptr i 0 => [i]
  | _ => []
def boxesOf : List (SV U) → List Nat
  | [] => []
  | v :: l => boxOf v ++ boxesOf l
def olsOf : List (SV U) → List Nat
  | [] => []
  | .ol i :: l => i :: olsOf l
  | .func _ a c :: l => boxesOf a ++ (boxesOf c ++ olsOf l)
  | _ :: l => olsOf l
def plain1 : SV U → Bool
  | .int _ _ | .bool _ | .str _ | .nilP | .nilS | .nilF | .nilI | .nilM => true
  | _ => false
def plainV : SV U → Bool
  | .agg l => l.all plain1
  | .tup l => l.all fun v => plain1 v || (match v with | .iface _ x => plain1 x | _ => false)
  | .iface _ x => plain1 x
  | v => plain1 v
def frzH (H : Hp U) : List Nat → Hp U
  | [] => H
  | i :: l => match conAt (frzH H l) i with
    | .list _ ex e c d => setC (frzH H l) i (.list true ex e c d)
    | .cells _ e vs => setC (frzH H l) i (.cells true e vs)
    | _ => frzH H l
def callStep (S : Sys U) (C : FuncId → Option (Spec U)) (H : Hp U) (g : FuncId) (args : List (SV U)) (K : SV U → Hp U → Prop) : Prop := match C g with
  | some sp => match olsOf args with
    | [] => sp.run H args K
    | ids => sp.run (frzH H ids) (viewL S H args) fun r H' => bif plainV r && !sp.wr then K r H else K r H'
  | none => False
def YB : Nat := 1152921504606846976
def yldStep (C : FuncId → Option (Spec U)) (H : Hp U) (i : Nat) (args : List (SV U)) (K : SV U → Hp U → Prop) : Prop := match C (Nat.add YB i) with
  | some sp => bif sp.wr then sp.run H args K else False
  | none => False
def bigStep (S : Sys U) (C : FuncId → Option (Spec U)) (F : Frm U) (H : Hp U) (o : Op) (K : SV U → Hp U → Prop) : Prop := match o with
  | .store t a x => match evo F a with
    | .ptr i o => match conAt H i with
      | .cells false e vs => bif known (evo F x) && Nat.beq (lenL (cellsSV (evo F x))) (S.size t) && !Nat.beq (S.size t) 0 && Nat.ble (o + S.size t) (lenL vs) && oneL (cellsSV (evo F x)) then K .undef (setC H i (.cells false e (putL vs o (cellsSV (evo F x))))) else False
      | _ => False
    | .olp i j o => match conAt H i with
      | .list false ex e c l => bif known (evo F x) && Nat.beq (lenL (cellsSV (evo F x))) (S.size t) && !Nat.beq (S.size t) 0 && Nat.ble (o + S.size t) (S.k c) && oneL (cellsSV (evo F x)) then
          Chk (j < l.length) ∧ ∀ y,l[j]? = some y → match S.of c (putL (S.cells c y) o (cellsSV (evo F x))) with
            | some z => K .undef (setC H i (.list false ex e c (l.set j z)))
            | none => False
        else False
      | _ => False
    | _ => False
  | .convert a b x => match S.td a,S.td b,evo F x with
    | .int _,.int k,.int _ n => arith k n fun v => K v H
    | .str,.str,.str s => K (.str s) H
    | _,_,_ => False
  | .call ⟨.builtin .append,a,ts⟩ => match a.toList,ts.toList with
    | [x,y],[t,u] => match S.td t,S.td u with
      | .slice e,.slice _ => bif Nat.beq (S.size e) (S.k (S.ty e)) && !Nat.beq (S.size e) 0 && Nat.beq (lenL (S.zero e)) (S.size e) && !Nat.beq (S.bytes e) 0 then appS S H e (evo F x) (evo F y) K else False
      | _,_ => False
    | _,_ => False
  | .call ⟨.builtin .copy,a,ts⟩ => match a.toList,ts.toList with
    | [x,y],t :: _ => match S.td t with
      | .slice e => match evo F x with
        | .ol i => match conAt H i with
          | .list false ex e' c l1 => bif Nat.beq (S.size e) (S.k c) && !Nat.beq (S.size e) 0 then listOf H c (evo F y) fun l2 => Chk (l2.length = l1.length) ∧ K (.int .i64 l1.length) (setC H i (.list false ex e' c l2)) else False
          | _ => False
        | _ => False
      | _ => False
    | _,_ => False
  | .call ⟨.value f,a,_⟩ => match evo F f with
    | .func g b c => bif Nat.blt g YB then callStep S C H g (b ++ (a.toList.map (evo F) ++ c)) K else False
    | .yld i => yldStep C H i (a.toList.map (evo F)) K
    | _ => False
  | _ => False
def writes (C : FuncId → Option (Spec U)) (F : Frm U) : Op → Bool
  | .convert _ _ _ => false
  | .call ⟨.value f,_,_⟩ => match evo F f with
    | .func g _ _ => match C g with
      | some sp => sp.wr
      | none => true
    | .yld i => match C (Nat.add YB i) with
      | some sp => sp.wr
      | none => true
    | _ => true
  | _ => true
def ifB (b w : Bool) (A B : Prop) : Prop := match w with
  | true => (b = true → A) ∧ (b = false → B)
  | false => (b = false → A) ∧ (b = true → B)
theorem ifB_eq {b w : Bool} {A B : Prop} (h : ifB b w A B) : (b = w → A) ∧ (b = (!w) → B) := by cases w <;> exact h
def gval (ops : List Oper) (F : Frm U) (j : Nat) : SV U := match ops,j with
  | [],_ => .undef
  | o :: _,0 => (match o.dst with | some d => get F d | none => .undef)
  | _ :: l,j + 1 => gval l F j
def kindO (o : Op) : Nat := match o with
  | .move _ | .assign _ | .pick .. | .build .. | .nilCheck _ | .binOp .. | .unOp .. | .makeInterface .. | .makeFunc .. | .slice .. | .fieldAddr .. | .field .. | .indexAddr .. | .index .. | .typeAssert .. | .extract .. => 0
  | .call ⟨.builtin .min,_,_⟩ | .call ⟨.builtin .max,_,_⟩ | .call ⟨.builtin .len,_,_⟩ => 0
  | .alloc _ | .box .. | .buildSlice .. | .makeSlice .. => 1
  | .load .. => 2
  | _ => 3
def step (S : Sys U) (C : FuncId → Option (Spec U)) (F : Frm U) (H : Hp U) (o : Op) (K : SV U → Hp U → Prop) : Prop := match kindO o with
  | 0 => pureStep S F H o fun v => K v H
  | 1 => layStep S F H o K
  | 2 => loadStep S F H o fun v => K v H
  | _ => bigStep S C F H o K
def after (nt : Nat) (dst : Option Nat) (F : Frm U) (v : SV U) (H : Hp U) (K : Frm U → Hp U → Prop) : Prop := force v fun v => forceH H fun H => match dst with
  | some d => bif Nat.blt d nt then K ((d,v) :: F) H else False
  | none => K F H
def wpOps (S : Sys U) (C : FuncId → Option (Spec U)) (nt : Nat) (all : List Oper) (ops : List Oper) : Frm U → Hp U → (Frm U → Hp U → Prop) → Prop :=
  List.rec (motive := fun _ => Frm U → Hp U → (Frm U → Hp U → Prop) → Prop) (fun F H K => K F H) (fun o _ R F H K => match o with
    | ⟨dst,op,_,_,_,none⟩ => step S C F H op fun v H => after nt dst F v H fun F H => R F H K
    | ⟨dst,op,_,_,_,some (j,w)⟩ => match gval all F j with
      | .bool b => ifB b w (step S C F H op fun v H => after nt dst F v H fun F H => R F H K) (after nt dst F .skip H fun F H => R F H K)
      | .skip => after nt dst F .skip H fun F H => R F H K
      | _ => False) ops
end Go.Sx
