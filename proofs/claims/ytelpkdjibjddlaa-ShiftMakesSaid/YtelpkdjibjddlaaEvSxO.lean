/-
  SX, PART M: the symbolic walk: code.
-/
import Derived.Test.YtelpkdjibjddlaaEvSxL
set_option linter.unusedSimpArgs false
set_option linter.unusedVariables false
namespace Go.Sx
open Go Go.Ev Go.RowKit
variable {U : Nat → Type}
abbrev Ren := List (Nat × Nat)
def ren (σ : Ren) (i : Nat) : Nat := match σ with
  | [] => i
  | (a,b) :: σ => bif Nat.beq a i then b else ren σ i
def pair1 : SV U → SV U → Ren
  | .ol i,.ol j => [(i,j)]
  | .osl i _ _,.osl j _ _ => [(i,j)]
  | .ptr i _,.ptr j _ => [(i,j)]
  | .olp i _ _,.olp j _ _ => [(i,j)]
  | _,_ => []
def pairL (R : SV U → SV U → Ren) : List (SV U) → List (SV U) → Ren
  | a :: l,b :: m => R a b ++ pairL R l m
  | _,_ => []
def pair2 : SV U → SV U → Ren
  | .agg l,.agg m => pairL pair1 l m
  | .tup l,.tup m => pairL pair1 l m
  | .func _ a c,.func _ b d => pairL pair1 a b ++ pairL pair1 c d
  | .iface _ x,.iface _ y => pair1 x y
  | x,y => pair1 x y
def pairF : Frm U → Frm U → Ren
  | [],_ => []
  | (t,v) :: F0,F => pair2 v (get F t) ++ pairF F0 F
def pairH (σ : Ren) (H : Hp U) : Nat → Hp U → Ren
  | _,[] => σ
  | i,c :: H0 => match c,conAt H (ren σ i) with
    | .cells _ _ vs,.cells _ _ ws => pairH (σ ++ pairL pair2 vs ws) H (Nat.succ i) H0
    | _,_ => pairH σ H (Nat.succ i) H0
def memN (l : List Nat) (n : Nat) : Bool := match l with
  | [] => false
  | a :: l => Nat.beq a n || memN l n
def injR (σ : Ren) (acc : List Nat) : Nat → Nat → Bool
  | _,0 => true
  | i,n + 1 => !memN acc (ren σ i) && injR σ (ren σ i :: acc) (Nat.succ i) n
def fixR (σ : Ren) : Nat → Nat → Bool
  | _,0 => true
  | i,n + 1 => Nat.beq (ren σ i) i && fixR σ (Nat.succ i) n
def eq1 (n0 : Nat) (σ : Ren) : SV U → SV U → Prop
  | .undef,_ => True
  | .skip,.skip => True
  | .int k x,.int k' y => bif Nat.beq k.ctorIdx k'.ctorIdx then x = y else False
  | .bool a,.bool b => a = b
  | .str a,.str b => a = b
  | .nilP,.nilP => True
  | .nilS,.nilS => True
  | .nilF,.nilF => True
  | .nilI,.nilI => True
  | .nilM,.nilM => True
  | .ptr i o,.ptr j p => bif Nat.beq (ren σ i) j && Nat.beq o p && Nat.blt i n0 then True else False
  | .ol i,.ol j => bif Nat.beq (ren σ i) j && Nat.blt i n0 then True else False
  | .osl i a n,.osl j b m => bif Nat.beq (ren σ i) j && Nat.blt i n0 then a = b ∧ n = m else False
  | .yld i,.yld j => bif Nat.beq (ren σ i) j && Nat.blt i n0 then True else False
  | .olp i a o,.olp j b p => bif Nat.beq (ren σ i) j && Nat.beq o p && Nat.blt i n0 then a = b else False
  | .sl _ l,.sl _ m => castL m fun m => l = m
  | .sl _ l,.nilS => l = []
  | .rp c x o,.rp d y p => bif Nat.beq o p then castL [y] fun m => [x] = m else False
  | _,_ => False
def eqL (R : SV U → SV U → Prop) : List (SV U) → List (SV U) → Prop
  | [],[] => True
  | a :: l,b :: m => R a b ∧ eqL R l m
  | _,_ => False
def eq2 (n0 : Nat) (σ : Ren) : SV U → SV U → Prop
  | .agg l,.agg m => eqL (eq1 n0 σ) l m
  | .tup l,.tup m => eqL (eq1 n0 σ) l m
  | .func f a c,.func g b d => bif Nat.beq f g then eqL (eq1 n0 σ) a b ∧ eqL (eq1 n0 σ) c d else False
  | .iface t x,.iface u y => bif Nat.beq t u then eq1 n0 σ x y else False
  | x,y => eq1 n0 σ x y
def eq3 (n0 : Nat) (σ : Ren) : SV U → SV U → Prop
  | .agg l,.agg m => eqL (eq2 n0 σ) l m
  | .tup l,.tup m => eqL (eq2 n0 σ) l m
  | .func f a c,.func g b d => bif Nat.beq f g then eqL (eq2 n0 σ) a b ∧ eqL (eq2 n0 σ) c d else False
  | .iface t x,.iface u y => bif Nat.beq t u then eq2 n0 σ x y else False
  | x,y => eq1 n0 σ x y
def eqF (n0 : Nat) (σ : Ren) : Frm U → Frm U → Prop
  | [],_ => True
  | (t,v) :: F0,F => eq3 n0 σ v (get F t) ∧ eqF n0 σ F0 F
def eqC (n0 : Nat) (σ : Ren) : Con U → Con U → Prop
  | .cells fz e vs,.cells fz' e' ws => bif Nat.beq e e' then fz = fz' ∧ eqL (eq3 n0 σ) vs ws else False
  | .list fz ex e _ l,.list fz' ex' e' _ m => bif Nat.beq e e' then fz = fz' ∧ ex = ex' ∧ castL m fun m => l = m else False
  | .dead,_ => True
  | .loop r st pd,.loop r' st' pd' => r = r' ∧ st = st' ∧ pd = pd'
  | .siter x p,.siter y q => x = y ∧ p = q
  | _,_ => False
def eqH (n0 : Nat) (σ : Ren) (H : Hp U) : Nat → Hp U → Prop
  | _,[] => True
  | i,c :: H0 => eqC n0 σ c (conAt H (ren σ i)) ∧ eqH n0 σ H (Nat.succ i) H0
def adopt (H0 : Hp U) : Frm U → Frm U → Hp U → (Frm U → Hp U → Prop) → Prop
  | [],F,H,K => K F H
  | (t,.ol i) :: F0,F,H,K => match get F t with
    | .nilS => match conAt H0 i with
      | .list _ _ e c _ => adopt H0 F0 ((t,.ol (lenH H)) :: F) (snoc H (.list false false e c [])) K
      | _ => False
    | _ => adopt H0 F0 F H K
  | (t,.osl _ _ _) :: F0,F,H,K => match get F t with
    | .ol j => match conAt H j with
      | .list _ _ _ _ l => adopt H0 F0 ((t,.osl j 0 l.length) :: F) H K
      | _ => False
    | _ => adopt H0 F0 F H K
  | _ :: F0,F,H,K => adopt H0 F0 F H K
def covers1 (m : Nat) (F0 : Frm U) (H0 : Hp U) (F : Frm U) (H : Hp U) (σ : Ren) : Prop :=
  bif injR σ [] 0 (lenH H0) && (fixR σ 0 m && Nat.ble m (lenH H0)) then eqF (lenH H0) σ F0 F ∧ eqH (lenH H0) σ H 0 H0 else False
def covers (m : Nat) (F0 : Frm U) (H0 : Hp U) (F : Frm U) (H : Hp U) : Prop := adopt H0 F0 F H fun F H => covers1 m F0 H0 F H (pairH (pairF F0 F) H 0 H0)
def wpLoop (m : Nat) (W : Frm U → Hp U → (Ex → Frm U → Hp U → Prop) → Prop) (F : Frm U) (H : Hp U) (K : Ex → Frm U → Hp U → Prop) : Prop :=
  ∃ (Y : Type) (G : Y → Frm U × Hp U) (P : Y → Prop) (μ : Y → Nat) (y0 : Y),P y0 ∧ covers m (G y0).1 (G y0).2 F H ∧
    ∀ y,P y → W (G y).1 (G y).2 fun e F' H' => match e with
      | .normal => ∃ y',μ y' < μ y ∧ P y' ∧ covers m (G y').1 (G y').2 F' H'
      | .exit i => K (.exit i) F' H'
      | .ret => K .ret F' H'
structure Dr where
  j : Nat
  k : Nat
  lay : Bool
  w : Bool
  fz : Bool
  h1 : Nat
def allD (R : Dr → Bool) : List Dr → Bool
  | [] => true
  | r :: D => R r && allD R D
def loadAt (F : Frm U) : Op → Option Nat
  | .load _ a => match evo F a with
    | .ptr i _ => some i
    | .olp i _ _ => some i
    | _ => none
  | _ => none
def isN : Option Nat → Bool
  | none => true
  | some _ => false
def isY (F : Frm U) : Op → Bool
  | .call ⟨.value f,_,_⟩ => match evo F f with
    | .yld _ => true
    | _ => false
  | _ => false
def okD (C : FuncId → Option (Spec U)) (F : Frm U) (H : Hp U) (bits : Nat → Bool) (D : List Dr) (o : Op) : Bool := match kindO o with
  | 0 => true
  | 1 => true
  | 2 => match loadAt F o with
    | some e => allD (fun r => (!r.w && (!r.lay || Nat.blt e r.h1)) || bits r.j) D
    | none => allD (fun r => (!r.w && !r.lay) || bits r.j) D
  | _ => bif isY F o then false else bif writes C F H o then allD (fun r => (!r.lay && !r.w && (Nat.ble r.k 1 || (Nat.beq r.k 2 && r.fz))) || bits r.j) D else allD (fun r => (!r.lay && !r.w) || bits r.j) D
def mkD (C : FuncId → Option (Spec U)) (F : Frm U) (H : Hp U) (i : Nat) (o : Op) : Dr := match kindO o with
  | 0 => ⟨i,0,false,false,false,lenH H⟩
  | 1 => ⟨i,1,true,false,false,lenH H⟩
  | 2 => ⟨i,2,false,false,isN (loadAt F o),lenH H⟩
  | _ => ⟨i,3,true,writes C F H o,false,lenH H⟩
def edgesAt : List Oper → Nat → List Edge
  | [],_ => []
  | o :: _,0 => o.after.toList
  | _ :: l,i + 1 => edgesAt l i
def anyE (R : Edge → Bool) : List Edge → Bool
  | [] => false
  | e :: l => (Region.binds .any e && R e) || anyE R l
def ordF (all : List Oper) : Nat → Nat → Nat → Bool
  | 0,_,_ => false
  | f + 1,i,j => anyE (fun e => Nat.beq e.on j) (edgesAt all i) || anyE (fun e => (Nat.blt j e.on && Nat.blt e.on i) && ordF all f e.on j) (edgesAt all i)
def ord (all : List Oper) (i j : Nat) : Bool := ordF all 8 i j
def wpDraw (S : Sys U) (C : FuncId → Option (Spec U)) (nt : Nat) (all : List Oper) (ops : List Oper) : Nat → List Dr → Frm U → Hp U → (Frm U → Hp U → Prop) → Prop :=
  List.rec (motive := fun _ => Nat → List Dr → Frm U → Hp U → (Frm U → Hp U → Prop) → Prop) (fun _ _ F H K => K F H) (fun o _ R i D F H K => match o with
    | ⟨dst,op,_,_,_,none⟩ => bif okD C F H (ord all i) D op then step S C F H op fun v H' => after nt dst F v H' fun F' H' => R (Nat.succ i) (mkD C F H i op :: D) F' H' K else False
    | ⟨dst,op,_,_,_,some (j,w)⟩ => match gval all F j with
      | .bool b => ifB b w (bif okD C F H (ord all i) D op then step S C F H op fun v H' => after nt dst F v H' fun F' H' => R (Nat.succ i) (mkD C F H i op :: D) F' H' K else False) (after nt dst F .skip H fun F H => R (Nat.succ i) D F H K)
      | .skip => after nt dst F .skip H fun F H => R (Nat.succ i) D F H K
      | _ => False) ops
structure Par (U : Nat → Type) where
  S : Sys U
  C : FuncId → Option (Spec U)
  nt : Nat
  m : Nat
  I : FuncId → Option (Spec U → Nat → Spec U)
abbrev Wp (U : Nat → Type) := Frm U → Hp U → (Ex → Frm U → Hp U → Prop) → Prop
abbrev WpP (U : Nat → Type) := Par U → Wp U
noncomputable def noR (c : Code) : Bool := Code.rec (motive := fun _ => Bool) true (fun _ _ _ => true) (fun _ _ a b => a && b) (fun _ _ _ a b => a && b) (fun _ _ b => b) (fun _ b => b) (fun _ _ _ _ _ _ => false) (fun _ => true) (fun _ _ => true) (fun _ => true) (fun _ => true) true (fun _ => true) c
def setF : List Tmp → List (SV U) → Frm U → Frm U
  | t :: ts,v :: vs,F => setF ts vs ((t,v) :: F)
  | _,_,F => F
def allTmp (n : Nat) : List Tmp → Bool
  | [] => true
  | t :: ts => Nat.blt t n && allTmp n ts
def stOf : Ex → LoopState
  | .normal => .ready
  | _ => .done
def exN : Ex → Bool
  | .normal => true
  | _ => false
def rndS (p : Par U) (ps : List Tmp) (was wbd : WpP U) (F : Frm U) (r0 : Loop) (i : Nat) : Spec U := ⟨true,false,fun H args K => match conAt H i with
  | .loop r .ready none => r = r0 ∧ (bif Nat.beq (lenL args) ps.length && allTmp p.nt ps && Nat.ble p.m (lenH H) then forceL force args fun args => was { p with m := lenH H } (setF ps args F) H fun e F1 H1 => match e with
      | .normal => (match conAt H1 i with
        | .loop r1 .ready none => r1 = r0 ∧ wbd { p with m := lenH H } F1 (setC H1 i (.loop r0 .busy none)) fun e F2 H2 => (match conAt H2 i with
          | .loop r2 .busy none => r2 = r0 ∧ K (.bool (exN e)) (setC H2 i (.loop r0 (stOf e) (jumpOf e)))
          | _ => False)
        | _ => False)
      | _ => False else False)
  | _ => False⟩
def afterR (K : Ex → Frm U → Hp U → Prop) (F : Frm U) (H : Hp U) (i : Nat) (r0 : Loop) : Prop := match conAt H i with
  | .loop _ .busy _ => False
  | .loop r _ pd => r = r0 ∧ (match pd with
    | none => K .normal F (setC H i .dead)
    | some .ret => K .ret F (setC H i .dead)
    | some (.exit id) => K (.exit id) F (setC H i .dead)
    | some _ => False)
  | _ => False
def wSkip : WpP U := fun _ F H K => K .normal F H
def wReg (_ : Nat) (ops : Array Oper) (draw : Bool) : WpP U := fun p F H K => bif draw then wpDraw p.S p.C p.nt ops.toList ops.toList 0 [] F H (fun F H => K .normal F H) else wpOps p.S p.C p.nt ops.toList ops.toList F H fun F H => K .normal F H
def wSeq (_ _ : Code) (wa wb : WpP U) : WpP U := fun p F H K => wa p F H fun e F H => match e with
    | .normal => wb p F H K
    | .exit i => K (.exit i) F H
    | .ret => K .ret F H
def wCond (c : Operand) (_ _ : Code) (wa wb : WpP U) : WpP U := fun p F H K => match evo F c with
    | .bool q => (q = true → wa p F H K) ∧ (q = false → wb p F H K)
    | _ => False
def wBlock (i : Nat) (_ : Code) (wb : WpP U) : WpP U := fun p F H K => wb p F H fun e F H => match e with
    | .normal => K .normal F H
    | .exit j => bif Nat.beq j i then K .normal F H else K (.exit j) F H
    | .ret => K .ret F H
def wLoop (_ : Code) (wb : WpP U) : WpP U := fun p F H K => wpLoop p.m (wb p) F H K
def wRange (f : Operand) (ps : Array Tmp) (as bd : Code) (was wbd : WpP U) : WpP U := fun p F H K => match evo F f with
  | .func g a c => match p.I g with
    | some it => bif noR as && noR bd && Nat.blt g YB then ∀ r0 : Loop,(it (rndS p ps.toList was wbd F r0 (lenH H)) (lenH H)).run (snoc H (.loop r0 .ready none)) (a ++ .yld (lenH H) :: c) fun _ H' => afterR K F H' (lenH H) r0 else False
    | none => False
  | _ => False
def wExit (i : Nat) : WpP U := fun _ F H K => K (.exit i) F H
def wRet : WpP U := fun _ F H K => K .ret F H
def wNo1 (_ : Code) (_ : WpP U) : WpP U := fun _ _ _ _ => False
def wNo {α : Type} (_ : α) : WpP U := fun _ _ _ _ => False
noncomputable def wp (p : Par U) (c : Code) : Wp U := Code.rec (motive := fun _ => WpP U) wSkip wReg wSeq wCond wBlock wLoop wRange wExit wNo1 wNo wNo wRet wNo c p
def resS (S : Sys U) (F : Frm U) (H : Hp U) : List ResultVar → (List (SV U) → Prop) → Prop
  | [],K => K []
  | .tmp t :: rs,K => force (get F t) fun v => resS S F H rs fun l => K (v :: l)
  | .cell a t :: rs,K => match get F a with
    | .ptr i o => match conAt H i with
      | .cells _ _ vs => loadCells S t vs o fun v => force v fun v => resS S F H rs fun l => K (v :: l)
      | _ => False
    | _ => False
def valS : List (SV U) → SV U
  | [v] => v
  | l => .tup l
def below1 (m : Nat) : SV U → Bool
  | .ptr i _ => Nat.blt i m
  | .ol i => Nat.blt i m
  | .osl i _ _ => Nat.blt i m
  | .yld i => Nat.blt i m
  | .olp i _ _ => Nat.blt i m
  | .agg _ => false
  | .tup _ => false
  | .func _ _ _ => false
  | .iface _ _ => false
  | _ => true
def below (m : Nat) : SV U → Bool
  | .agg l => l.all (below1 m)
  | .tup l => l.all fun v => (match v with | .agg l => l.all (below1 m) | .iface _ x => below1 m x | v => below1 m v)
  | .func _ a c => a.all (below1 m) && c.all (below1 m)
  | .iface _ x => below1 m x
  | v => below1 m v
def resV (H : Hp U) (v : SV U) (K : SV U → Hp U → Prop) : Prop := match v with
  | .tup l => resL H l fun l H => K (.tup l) H
  | .agg l => resL H l fun l H => K (.agg l) H
  | v => resL H [v] fun l H => match l with
    | [v] => K v H
    | _ => False
def fin (p : Par U) (rs : List ResultVar) (K : SV U → Hp U → Prop) (e : Ex) (F : Frm U) (H : Hp U) : Prop := match e with
  | .exit _ => False
  | _ => resS p.S F H rs fun l => resV H (valS l) fun v H => bif below p.m v && Nat.beq p.m 0 then K v [] else False
def finO (p : Par U) (rs : List ResultVar) (K : SV U → Hp U → Prop) (e : Ex) (F : Frm U) (H : Hp U) : Prop := match e with
  | .exit _ => False
  | _ => resS p.S F H rs fun l => ∃ v0 H0,covers p.m [(0,v0)] H0 [(0,valS l)] H ∧ K v0 H0
end Go.Sx

/-
  SX, PART N: one frame and heap stand for another one.
-/
namespace Go.Sx
open Go Go.Ev Go.RowKit
variable {U : Nat → Type} {T : Tab} {S : Sys U}
theorem idf_move (ok : SysOk T S) {X Y : Env U} (ht : Y.t = X.t) (hn : Y.n = X.n) (hf : ∀ N,Y.fb N → X.fb N) {l : List (SV U)} {vs : List Value} (d : DenL S X l vs) : (∀ v ∈ l,idf v = true) → DenL S Y l vs := by
  induction d with
  | nil => exact fun _ => .nil
  | undef _ _ => exact fun h => absurd (h _ List.mem_cons_self) (by simp [idf,idf1])
  | skip _ _ => exact fun h => absurd (h _ List.mem_cons_self) (by simp [idf,idf1])
  | int _ ih => exact fun h => .int (ih fun v hv => h v (List.mem_cons_of_mem _ hv))
  | bool _ ih => exact fun h => .bool (ih fun v hv => h v (List.mem_cons_of_mem _ hv))
  | str _ ih => exact fun h => .str (ih fun v hv => h v (List.mem_cons_of_mem _ hv))
  | nilP _ ih => exact fun h => .nilP (ih fun v hv => h v (List.mem_cons_of_mem _ hv))
  | nilS _ ih => exact fun h => .nilS (ih fun v hv => h v (List.mem_cons_of_mem _ hv))
  | nilF _ ih => exact fun h => .nilF (ih fun v hv => h v (List.mem_cons_of_mem _ hv))
  | nilI _ ih => exact fun h => .nilI (ih fun v hv => h v (List.mem_cons_of_mem _ hv))
  | nilM _ ih => exact fun h => .nilM (ih fun v hv => h v (List.mem_cons_of_mem _ hv))
  | agg _ _ _ _ => exact fun h => absurd (h _ List.mem_cons_self) (by simp [idf,idf1])
  | tup _ _ _ _ => exact fun h => absurd (h _ List.mem_cons_self) (by simp [idf,idf1])
  | ptr _ _ _ => exact fun h => absurd (h _ List.mem_cons_self) (by simp [idf,idf1])
  | ol _ _ _ => exact fun h => absurd (h _ List.mem_cons_self) (by simp [idf,idf1])
  | osl _ _ _ => exact fun h => absurd (h _ List.mem_cons_self) (by simp [idf,idf1])
  | olp _ _ _ => exact fun h => absurd (h _ List.mem_cons_self) (by simp [idf,idf1])
  | func _ _ _ _ _ _ => exact fun h => absurd (h _ List.mem_cons_self) (by simp [idf,idf1])
  | yld _ _ _ => exact fun h => absurd (h _ List.mem_cons_self) (by simp [idf,idf1])
  | sl h9 h1 h2 _ h4 _ i1 i2 => exact fun h => .sl h9 (fun hd => by obtain ⟨a,b,c,d⟩ := h1 hd; exact ⟨a,by rw [ht]; exact b,by rw [hn]; exact c,fun hx => d (hf _ hx)⟩) h2 (fun j x hx => i1 j x hx (ok.idf _ x)) h4 (i2 fun v hv => h v (List.mem_cons_of_mem _ hv))
  | rp h2 h3 h4 h5 _ _ i1 i2 => exact fun h => .rp (by rw [ht]; exact h2) (by rw [hn]; exact h3) (fun hx => h4 (hf _ hx)) h5 (i1 (ok.idf _ _)) (i2 fun v hv => h v (List.mem_cons_of_mem _ hv))
  | @iface t x w l vs _ _ i1 i2 => exact fun h => .iface (i1 fun v hv => by
      rw [List.mem_singleton] at hv; subst hv
      have := h _ List.mem_cons_self
      have h1 : idf1 v = true := this
      cases v <;> first | rfl | (exact absurd h1 (by simp [idf1])) | exact h1) (i2 fun v hv => h v (List.mem_cons_of_mem _ hv))
def nsR (σ : Ren) (ns : List (Option Nat)) (n0 : Nat) : List (Option Nat) := (List.range n0).map fun i => (ns[ren σ i]?).getD none
def Env.ren (X : Env U) (σ : Ren) (H0 : Hp U) : Env U := ⟨X.wb,nsR σ X.ns H0.length,H0,X.t,X.n⟩
theorem nsR_get {σ : Ren} {ns : List (Option Nat)} {n0 i : Nat} (hi : i < n0) : (nsR σ ns n0)[i]? = some ((ns[Sx.ren σ i]?).getD none) := by
  unfold nsR
  rw [List.getElem?_map,List.getElem?_range hi]; rfl
theorem nsR_some {σ : Ren} {ns : List (Option Nat)} {n0 i N : Nat} (h : (nsR σ ns n0)[i]? = some (some N)) : i < n0 ∧ ns[Sx.ren σ i]? = some (some N) := by
  have hi : i < n0 := by have := (List.getElem?_eq_some_iff.1 h).1; simpa [nsR] using this
  refine ⟨hi,?_⟩
  rw [nsR_get hi] at h
  cases hx : ns[Sx.ren σ i]? with
  | none => rw [hx] at h; cases h
  | some q => rw [hx] at h; cases h; rfl
theorem eqH_at {n0 : Nat} {σ : Ren} {H : Hp U} : ∀ {H0 : Hp U} {i j : Nat} {c : Con U},eqH n0 σ H i H0 → H0[j]? = some c → eqC n0 σ c (conAt H (Sx.ren σ (i + j)))
  | [],i,j,c,_,h => by simp at h
  | d :: H0,i,0,c,he,h => by simp at h; subst h; exact he.1
  | d :: H0,i,j + 1,c,he,h => by
    have := eqH_at (H0 := H0) (i := Nat.succ i) (j := j) he.2 (by simpa using h)
    rw [show i + (j + 1) = Nat.succ i + j by omega]; exact this
theorem ren_live {X : Env U} {σ : Ren} {H0 : Hp U} (he : eqH H0.length σ X.H 0 H0) {N : Nat} (h : (X.ren σ H0).liveN N) : X.liveN N := by
  obtain ⟨i,c,h1,h2,h3⟩ := h
  obtain ⟨hi,h4⟩ := nsR_some h1
  have h5 := eqH_at he h2
  rw [Nat.zero_add] at h5
  refine ⟨Sx.ren σ i,conAt X.H (Sx.ren σ i),h4,?_,?_⟩
  · cases c with
    | dead => cases h3
    | loop r st pd =>
      cases hc : conAt X.H (Sx.ren σ i) with
      | loop _ _ _ => exact conAt_get hc (by simp)
      | _ => rw [hc] at h5; exact h5.elim
    | siter x p =>
      cases hc : conAt X.H (Sx.ren σ i) with
      | siter _ _ => exact conAt_get hc (by simp)
      | _ => rw [hc] at h5; exact h5.elim
    | cells fz e vs =>
      cases hc : conAt X.H (Sx.ren σ i) with
      | cells _ _ _ => exact conAt_get hc (by simp)
      | _ => rw [hc] at h5; exact h5.elim
    | list fz ex e k l =>
      cases hc : conAt X.H (Sx.ren σ i) with
      | list _ _ _ _ _ => exact conAt_get hc (by simp)
      | _ => rw [hc] at h5; exact h5.elim
  · cases c with
    | dead => cases h3
    | loop r st pd =>
      cases hc : conAt X.H (Sx.ren σ i) with
      | loop _ _ _ => rfl
      | _ => rw [hc] at h5; exact h5.elim
    | siter x p =>
      cases hc : conAt X.H (Sx.ren σ i) with
      | siter _ _ => rfl
      | _ => rw [hc] at h5; exact h5.elim
    | cells fz e vs =>
      cases hc : conAt X.H (Sx.ren σ i) with
      | cells fz' _ _ =>
        rw [hc] at h5
        obtain ⟨_,h5,_⟩ := bif_true h5
        subst h5; exact h3
      | _ => rw [hc] at h5; exact h5.elim
    | list fz ex e k l =>
      cases hc : conAt X.H (Sx.ren σ i) with
      | list fz' _ _ _ _ =>
        rw [hc] at h5
        obtain ⟨_,h5,_⟩ := bif_true h5
        subst h5; exact h3
      | _ => rw [hc] at h5; exact h5.elim
theorem ren_fb {X : Env U} {σ : Ren} {H0 : Hp U} (he : eqH H0.length σ X.H 0 H0) {N : Nat} (h : (X.ren σ H0).fb N) : X.fb N := by
  rcases h with h | h
  · exact .inl h
  · exact .inr (ren_live he h)
theorem ren_ol {X : Env U} {σ : Ren} {H0 : Hp U} (he : eqH H0.length σ X.H 0 H0) {i j : Nat} {w : Value} (hij : Nat.beq (Sx.ren σ i) j = true) (hi : i < H0.length) (h : olDen S X j w) : olDen S (X.ren σ H0) i w := by
  have := beq_nat hij
  subst this
  unfold olDen at h ⊢
  have hc : H0[i]? = some H0[i] := List.getElem?_eq_getElem hi
  have h5 := eqH_at he hc
  rw [Nat.zero_add] at h5
  show match H0[i]? with | some (.list _ ex _ c l) => _ | some _ => _ | none => _
  rw [hc]
  generalize H0[i] = c at h5 hc
  cases c with
  | dead => trivial
  | loop r st pd => trivial
  | siter x p => trivial
  | cells fz e vs => trivial
  | list fz ex e k l =>
    cases hcon : conAt X.H (Sx.ren σ i) with
    | list fz' ex' e' k' l' =>
      rw [hcon] at h5
      obtain ⟨_,_,h6,h7⟩ := bif_true h5
      subst h6
      obtain ⟨ek,h7⟩ := castL_ex h7
      subst ek
      subst h7
      rw [conAt_get hcon (by simp)] at h
      obtain ⟨N,h1,h2⟩ := h
      refine ⟨N,?_,h2⟩
      show (nsR σ X.ns H0.length)[i]? = _
      rw [nsR_get hi,h1]; rfl
    | _ => rw [hcon] at h5; exact h5.elim
theorem ren_osl {X : Env U} {σ : Ren} {H0 : Hp U} (he : eqH H0.length σ X.H 0 H0) {i j a n : Nat} {w : Value} (hij : Nat.beq (Sx.ren σ i) j = true) (hi : i < H0.length) (h : oslDen S X j a n w) : oslDen S (X.ren σ H0) i a n w := by
  have := beq_nat hij
  subst this
  unfold oslDen at h ⊢
  have hc : H0[i]? = some H0[i] := List.getElem?_eq_getElem hi
  have h5 := eqH_at he hc
  rw [Nat.zero_add] at h5
  show match H0[i]? with | some (.list _ ex _ c l) => _ | some _ => _ | none => _
  rw [hc]
  generalize H0[i] = c at h5 hc
  cases c with
  | list fz ex e k l =>
    cases hcon : conAt X.H (Sx.ren σ i) with
    | list fz' ex' e' k' l' =>
      rw [hcon] at h5
      obtain ⟨_,_,h6,h7⟩ := bif_true h5
      subst h6
      obtain ⟨ek,h7⟩ := castL_ex h7
      subst ek
      subst h7
      rw [conAt_get hcon (by simp)] at h
      obtain ⟨N,h1,h2⟩ := h
      refine ⟨N,?_,h2⟩
      show (nsR σ X.ns H0.length)[i]? = _
      rw [nsR_get hi,h1]; rfl
    | _ => rw [hcon] at h5; exact h5.elim
  | _ => trivial
theorem eq1_den (ok : SysOk T S) {X : Env U} {σ : Ren} {H0 : Hp U} (he : eqH H0.length σ X.H 0 H0) {v0 v : SV U} {w : Value} (h : eq1 H0.length σ v0 v) (d : Den S X v w) : Den S (X.ren σ H0) v0 w := by
  have hmv : ∀ {x : SV U} {u : Value},idf x = true → Den S X x u → Den S (X.ren σ H0) x u := fun hi d => idf_move (X := X) (Y := X.ren σ H0) ok rfl rfl (fun _ h => ren_fb he h) d fun v hv => by rw [List.mem_singleton] at hv; subst hv; exact hi
  unfold eq1 at h
  split at h
  · exact .undef .nil
  · have : w = Go.undef := by cases d; rfl
    subst this; exact .skip .nil
  · obtain ⟨h1,h2⟩ := bif_true h
    have := kind_eq h1; subst this; subst h2; exact hmv rfl d
  · subst h; exact hmv rfl d
  · subst h; exact hmv rfl d
  · exact hmv rfl d
  · exact hmv rfl d
  · exact hmv rfl d
  · exact hmv rfl d
  · exact hmv rfl d
  · obtain ⟨h1,_⟩ := bif_true h
    obtain ⟨h1,h3⟩ := and_tt h1
    obtain ⟨h1,h2⟩ := and_tt h1
    obtain ⟨N,hN,rfl⟩ := ptr_inv d
    have e1 := beq_nat h1
    have e2 := beq_nat h2
    subst e2
    refine .ptr ?_ .nil
    show (nsR σ X.ns H0.length)[_]? = _
    rw [nsR_get (Nat.le_of_ble_eq_true h3),e1,hN]; rfl
  · obtain ⟨h1,_⟩ := bif_true h
    obtain ⟨h1,h3⟩ := and_tt h1
    cases d with
    | ol hd _ => exact .ol (ren_ol he h1 (Nat.le_of_ble_eq_true h3) hd) .nil
  · obtain ⟨h1,h4,h5⟩ := bif_true h
    subst h4 h5
    obtain ⟨h1,h3⟩ := and_tt h1
    cases d with
    | osl hd _ => exact .osl (ren_osl he h1 (Nat.le_of_ble_eq_true h3) hd) .nil
  · obtain ⟨h1,_⟩ := bif_true h
    obtain ⟨h1,h3⟩ := and_tt h1
    cases d with
    | yld hN _ =>
      refine .yld ?_ .nil
      show (nsR σ X.ns H0.length)[_]? = _
      rw [nsR_get (Nat.le_of_ble_eq_true h3),beq_nat h1,hN]; rfl
  · rename_i i a o j b p
    obtain ⟨h1,hab⟩ := bif_true h
    subst hab
    obtain ⟨h1,h3⟩ := and_tt h1
    obtain ⟨h4,h2⟩ := and_tt h1
    have e2 := beq_nat h2
    subst e2
    have e1 := beq_nat h4
    subst e1
    obtain ⟨N,q,rfl,hq⟩ := olp_inv d
    refine .olp ?_ .nil
    have hi : i < H0.length := Nat.le_of_ble_eq_true h3
    unfold olpDen at hq ⊢
    have hc : H0[i]? = some H0[i] := List.getElem?_eq_getElem hi
    have h5 := eqH_at he hc
    rw [Nat.zero_add] at h5
    show match H0[i]? with | some (.list _ _ _ c _) => _ | some _ => _ | none => _
    rw [hc]
    generalize H0[i] = c at h5 hc
    cases c with
    | dead => trivial
    | loop r st pd => trivial
    | siter x p => trivial
    | cells fz e vs => trivial
    | list fz ex e k l =>
      cases hcon : conAt X.H (Sx.ren σ i) with
      | list fz' ex' e' k' l' =>
        rw [hcon] at h5
        obtain ⟨_,_,h6,h7⟩ := bif_true h5
        obtain ⟨ek,h7⟩ := castL_ex h7
        subst ek
        rw [conAt_get hcon (by simp)] at hq
        refine ⟨?_,hq.2⟩
        show (nsR σ X.ns H0.length)[i]? = _
        rw [nsR_get hi,hq.1]; rfl
      | _ => rw [hcon] at h5; exact h5.elim
  · obtain ⟨e,h⟩ := castL_ex h
    subst e
    subst h
    exact hmv rfl d
  · subst h
    have : w = .slice none 0 0 := by cases d; rfl
    subst this
    exact DenL.sl (cs := fun _ => []) (ws := []) (N := 0) (o := 0) (e := 0) (hi := 0) ⟨.inl rfl,.inl ⟨Nat.le_refl _,by decide⟩⟩ (fun h => absurd rfl h) (fun j x h => by simp at h) (fun j x h => by simp at h) (Nat.zero_lt_succ _) .nil
  · obtain ⟨h1,h2⟩ := bif_true h
    have := beq_nat h1; subst this
    obtain ⟨e,h2⟩ := castL_ex h2
    subst e
    cases h2
    exact hmv rfl d
  · exact h.elim
theorem eqL_den {X Y : Env U} {R : SV U → SV U → Prop} (hR : ∀ v0 v w,R v0 v → Den S X v w → Den S Y v0 w) : ∀ {l m : List (SV U)} {vs : List Value},eqL R l m → DenL S X m vs → DenL S Y l vs
  | [],[],vs,_,d => by cases d; exact .nil
  | a :: l,b :: m,vs,h,d => by
    obtain ⟨w,ws,rfl,h1,h2⟩ := d.uncons
    exact DenL.cons (hR _ _ _ h.1 h1) (eqL_den hR h.2 h2)
  | [],_ :: _,_,h,_ => h.elim
  | _ :: _,[],_,h,_ => h.elim
theorem func_inv {f : FuncId} {a c : List (SV U)} {w : Value} {X : Env U} (h : Den S X (.func f a c) w) : ∃ as cs,w = .func (.func f) ⟨as⟩ ⟨cs⟩ ∧ DenL S X a as ∧ DenL S X c cs := by cases h; exact ⟨_,_,rfl,by assumption,by assumption⟩
theorem eq2_den (ok : SysOk T S) {X : Env U} {σ : Ren} {H0 : Hp U} (he : eqH H0.length σ X.H 0 H0) {v0 v : SV U} {w : Value} (h : eq2 H0.length σ v0 v) (d : Den S X v w) : Den S (X.ren σ H0) v0 w := by
  unfold eq2 at h
  split at h
  · obtain ⟨vs,rfl,d'⟩ := agg_inv d; exact .agg (eqL_den (fun _ _ _ h d => eq1_den ok he h d) h d') .nil
  · obtain ⟨vs,rfl,d'⟩ := tup_inv d; exact .tup (eqL_den (fun _ _ _ h d => eq1_den ok he h d) h d') .nil
  · obtain ⟨h1,h2,h3⟩ := bif_true h
    have := beq_nat h1; subst this
    obtain ⟨as,cs,rfl,d1,d2⟩ := func_inv d
    exact .func (eqL_den (fun _ _ _ h d => eq1_den ok he h d) h2 d1) (eqL_den (fun _ _ _ h d => eq1_den ok he h d) h3 d2) .nil
  · obtain ⟨h1,h2⟩ := bif_true h
    have := beq_nat h1; subst this
    obtain ⟨u,rfl,d'⟩ := iface_inv d
    exact .iface (eq1_den ok he h2 d') .nil
  · exact eq1_den ok he h d
theorem eq3_den (ok : SysOk T S) {X : Env U} {σ : Ren} {H0 : Hp U} (he : eqH H0.length σ X.H 0 H0) {v0 v : SV U} {w : Value} (h : eq3 H0.length σ v0 v) (d : Den S X v w) : Den S (X.ren σ H0) v0 w := by
  unfold eq3 at h
  split at h
  · obtain ⟨vs,rfl,d'⟩ := agg_inv d; exact .agg (eqL_den (fun _ _ _ h d => eq2_den ok he h d) h d') .nil
  · obtain ⟨vs,rfl,d'⟩ := tup_inv d; exact .tup (eqL_den (fun _ _ _ h d => eq2_den ok he h d) h d') .nil
  · obtain ⟨h1,h2,h3⟩ := bif_true h
    have := beq_nat h1; subst this
    obtain ⟨as,cs,rfl,d1,d2⟩ := func_inv d
    exact .func (eqL_den (fun _ _ _ h d => eq2_den ok he h d) h2 d1) (eqL_den (fun _ _ _ h d => eq2_den ok he h d) h3 d2) .nil
  · obtain ⟨h1,h2⟩ := bif_true h
    have := beq_nat h1; subst this
    obtain ⟨u,rfl,d'⟩ := iface_inv d
    exact .iface (eq2_den ok he h2 d') .nil
  · exact eq1_den ok he h d
theorem eqF_den (ok : SysOk T S) {X : Env U} {σ : Ren} {H0 : Hp U} (he : eqH H0.length σ X.H 0 H0) {tmps : List Value} : ∀ {F0 F : Frm U},eqF H0.length σ F0 F → FrmOk S X F tmps → FrmOk S (X.ren σ H0) F0 tmps
  | [],F,_,_ => fun t => .undef .nil
  | (m,v) :: F0,F,h,d => fun t => by
    unfold get
    cases hb : Nat.beq t m with
    | true => have := beq_nat hb; subst this; exact eq3_den ok he h.1 (d t)
    | false => exact eqF_den ok he h.2 d t
theorem memN_iff : ∀ (l : List Nat) (n : Nat),memN l n = true ↔ n ∈ l
  | [],n => by simp [memN]
  | a :: l,n => by
    simp only [memN,Bool.or_eq_true,List.mem_cons,memN_iff l n]
    constructor
    · rintro (h | h)
      · exact .inl (beq_nat h).symm
      · exact .inr h
    · rintro (rfl | h)
      · exact .inl (Nat.beq_refl _)
      · exact .inr h
theorem injR_ok {σ : Ren} : ∀ {n i : Nat} {acc : List Nat},injR σ acc i n = true → ∀ j k,i ≤ j → j < i + n → (ren σ j ∉ acc) ∧ (k < j → i ≤ k → ren σ k ≠ ren σ j)
  | 0,i,acc,_,j,k,h1,h2 => by omega
  | n + 1,i,acc,h,j,k,h1,h2 => by
    unfold injR at h
    obtain ⟨h3,h4⟩ := and_tt h
    have h3 : ren σ i ∉ acc := by
      intro hm
      rw [(memN_iff acc _).2 hm] at h3; cases h3
    by_cases hj : j = i
    · subst hj; exact ⟨h3,fun h5 h6 => by omega⟩
    · obtain ⟨g1,g2⟩ := injR_ok h4 j k (by omega) (by omega)
      refine ⟨fun hm => g1 (List.mem_cons_of_mem _ hm),fun h5 h6 e => ?_⟩
      by_cases hk : k = i
      · subst hk; exact g1 (by rw [← e]; exact List.mem_cons_self)
      · exact g2 h5 (by omega) e
theorem fixR_ok {σ : Ren} : ∀ {n i : Nat},fixR σ i n = true → ∀ j,i ≤ j → j < i + n → ren σ j = j
  | 0,i,_,j,h1,h2 => by omega
  | n + 1,i,h,j,h1,h2 => by
    unfold fixR at h
    obtain ⟨h3,h4⟩ := and_tt h
    by_cases hj : j = i
    · subst hj; exact beq_nat h3
    · exact fixR_ok h4 j (by omega) (by omega)
theorem ren_rel (ok : SysOk T S) {X : Env U} {σ : Ren} {H0 : Hp U} (hr : HRel S X) (he : eqH H0.length σ X.H 0 H0) (hinj : injR σ [] 0 H0.length = true) : HRel S (X.ren σ H0) := by
  have hfb : ∀ {N},(X.ren σ H0).fb N → X.fb N := fun h => ren_fb he h
  refine ⟨by show (nsR σ X.ns H0.length).length = H0.length; simp [nsR],fun i c N h1 h2 => ?_,fun i j N h1 h2 => ?_,fun i N h => ?_,hr.wbl⟩
  · have h1 : H0[i]? = some c := h1
    have hi : i < H0.length := (List.getElem?_eq_some_iff.1 h1).1
    have h5 := eqH_at he h1
    rw [Nat.zero_add] at h5
    have h2 : (nsR σ X.ns H0.length)[i]? = some N := h2
    rw [nsR_get hi] at h2
    cases c with
    | dead => trivial
    | loop r st pd =>
      cases hcon : conAt X.H (Sx.ren σ i) with
      | loop r' st' pd' =>
        rw [hcon] at h5
        obtain ⟨h6,h7,h8⟩ := h5
        subst h6; subst h7; subst h8
        have hg := conAt_get hcon (by simp)
        have hl : Sx.ren σ i < X.ns.length := by rw [hr.len]; exact (List.getElem?_eq_some_iff.1 hg).1
        have hn : X.ns[Sx.ren σ i]? = some X.ns[Sx.ren σ i] := List.getElem?_eq_getElem hl
        rw [hn] at h2
        cases h2
        exact hr.ok _ _ _ hg hn
      | _ => rw [hcon] at h5; exact h5.elim
    | siter x p =>
      cases hcon : conAt X.H (Sx.ren σ i) with
      | siter x' p' =>
        rw [hcon] at h5
        obtain ⟨h6,h7⟩ := h5
        subst h6; subst h7
        have hg := conAt_get hcon (by simp)
        have hl : Sx.ren σ i < X.ns.length := by rw [hr.len]; exact (List.getElem?_eq_some_iff.1 hg).1
        have hn : X.ns[Sx.ren σ i]? = some X.ns[Sx.ren σ i] := List.getElem?_eq_getElem hl
        rw [hn] at h2
        cases h2
        exact hr.ok _ _ _ hg hn
      | _ => rw [hcon] at h5; exact h5.elim
    | cells fz e vs =>
      cases hcon : conAt X.H (Sx.ren σ i) with
      | cells fz' e' ws =>
        rw [hcon] at h5
        obtain ⟨h6,h7,h8⟩ := bif_true h5
        have := beq_nat h6; subst this; subst h7
        have hg := conAt_get hcon (by simp)
        have hl : Sx.ren σ i < X.ns.length := by rw [hr.len]; exact (List.getElem?_eq_some_iff.1 hg).1
        have hn : X.ns[Sx.ren σ i]? = some X.ns[Sx.ren σ i] := List.getElem?_eq_getElem hl
        rw [hn] at h2
        cases h2
        obtain ⟨M,us,k1,k2,k3,k4,k5⟩ := hr.ok _ _ _ hg hn
        exact ⟨M,us,k1,k2,eqL_den (fun _ _ _ h d => eq3_den ok he h d) h8 k3,k4,fun hf hb => k5 hf (hfb hb)⟩
      | _ => rw [hcon] at h5; exact h5.elim
    | list fz ex e k l =>
      cases hcon : conAt X.H (Sx.ren σ i) with
      | list fz' ex' e' k' l' =>
        rw [hcon] at h5
        obtain ⟨h6,h7,h8,h9⟩ := bif_true h5
        have := beq_nat h6; subst this; subst h7; subst h8
        obtain ⟨ek,h9⟩ := castL_ex h9
        subst ek; subst h9
        have hg := conAt_get hcon (by simp)
        have hl : Sx.ren σ i < X.ns.length := by rw [hr.len]; exact (List.getElem?_eq_some_iff.1 hg).1
        have hn : X.ns[Sx.ren σ i]? = some X.ns[Sx.ren σ i] := List.getElem?_eq_getElem hl
        rw [hn] at h2
        cases h2
        have hok := hr.ok _ _ _ hg hn
        refine ⟨hok.1,?_⟩
        cases hN : X.ns[Sx.ren σ i] with
        | none => rw [hN] at hok; exact hok.2
        | some M =>
          rw [hN] at hok
          obtain ⟨_,us,cs,k1,k2,k3,k4,k5,k6⟩ := hok
          exact ⟨us,cs,k1,k2,k3,fun j x hx => idf_move (X := X) (Y := X.ren σ H0) ok rfl rfl (fun _ h => hfb h) (k4 j x hx) (ok.idf _ _),k5,fun hf hb => k6 hf (hfb hb)⟩
      | _ => rw [hcon] at h5; exact h5.elim
  · obtain ⟨hi,g1⟩ := nsR_some h1
    obtain ⟨hj,g2⟩ := nsR_some h2
    have := hr.inj _ _ _ g1 g2
    rcases Nat.lt_trichotomy i j with h | h | h
    · exact absurd this ((injR_ok hinj j i (Nat.zero_le _) (by omega)).2 h (Nat.zero_le _))
    · exact h
    · exact absurd this.symm ((injR_ok hinj i j (Nat.zero_le _) (by omega)).2 h (Nat.zero_le _))
  · obtain ⟨hi,g1⟩ := nsR_some h
    exact hr.lt _ _ g1
end Go.Sx

/-
  SX, PART O: the walk is sound: operations, regions.
-/
namespace Go.Sx
open Go Go.Ev Go.RowKit
variable {U : Nat → Type} {T : Tab} {S : Sys U}
variable {dq : List Nat}
structure Rl (S : Sys U) (nt : Nat) (dq : List Nat) (X : Env U) (F : Frm U) (fr : Fr) (s : St) : Prop where
  t : X.t = s.t
  n : X.n = s.next
  rel : HRel S X
  frm : FrmOk S X F fr.tmps
  len : fr.tmps.length = nt
  dfs : fr.defers = dq
  dqn : dq.Nodup
  dqs : ∀ D ∈ dq,X.t.get D = some (.obj (.deferred (some []))) ∧ D < X.n ∧ ¬ X.fb D
theorem dq_later {X X' : Env U} (h : Later X X') {dq : List Nat} (hd : ∀ D ∈ dq,X.t.get D = some (.obj (.deferred (some []))) ∧ D < X.n ∧ ¬ X.fb D) : ∀ D ∈ dq,X'.t.get D = some (.obj (.deferred (some []))) ∧ D < X'.n ∧ ¬ X'.fb D := fun D hD => by
  obtain ⟨h1,h2,h3⟩ := hd D hD
  obtain ⟨g1,g2⟩ := h.mem D h2 h3
  exact ⟨g1.trans h1,Nat.lt_of_lt_of_le h2 h.n,g2⟩
structure Tr (m : Nat) (X0 : Env U) (s0 : St) (X : Env U) (s : St) : Prop where
  wb : X.wb = X0.wb
  next : s0.next ≤ s.next
  live : ∀ N,N < s0.next → X.liveN N → X0.liveN N
  mods : ∃ d,s.mods = d ++ s0.mods ∧ (∀ N ∈ d,N < s.next ∧ (N < s0.next → X0.liveN N)) ∧ ∀ N,N < s0.next → N ∉ d → s.t.get N = s0.t.get N
  ids : ∀ i,i < m → ∃ N c c',X0.ns[i]? = some N ∧ X.ns[i]? = some N ∧ X0.H[i]? = some c ∧ X.H[i]? = some c' ∧ Same c c'
theorem Same.trans {a b c : Con U} (h : Same a b) (g : Same b c) : Same a c := fun fz ex e k l e1 => by
  obtain ⟨fz1,l1,e2,e3⟩ := g fz ex e k l e1
  obtain ⟨fz2,l2,e4,e5⟩ := h fz1 ex e k l1 e2
  exact ⟨fz2,l2,e4,e5.trans e3⟩
theorem Tr.refl {X : Env U} (hr : HRel S X) (s : St) : Tr X.H.length X s X s := ⟨rfl,Nat.le_refl _,fun _ _ h => h,⟨[],rfl,(fun _ h => by cases h),fun _ _ _ => rfl⟩,fun i hi => ⟨_,_,_,List.getElem?_eq_getElem (hr.len ▸ hi),List.getElem?_eq_getElem (hr.len ▸ hi),List.getElem?_eq_getElem hi,List.getElem?_eq_getElem hi,Same.refl _⟩⟩
theorem Tr.step {m : Nat} {X0 X X' : Env U} {s0 s s' : St} {d : List Nat} (h : Tr m X0 s0 X s) (g : StepW S X s X' s' d) : Tr m X0 s0 X' s' := by
  obtain ⟨e,h1,h2,h3⟩ := h.mods
  refine ⟨g.wb.trans h.wb,Nat.le_trans h.next g.next,fun N hN hl => h.live N hN (g.live N (Nat.lt_of_lt_of_le hN h.next) hl),⟨d ++ e,by rw [g.mods,h1,List.append_assoc],fun N hN => ?_,fun N hN hne => ?_⟩,fun i hi => ?_⟩
  · rcases List.mem_append.1 hN with hN | hN
    · obtain ⟨k1,k2⟩ := g.dl N hN
      exact ⟨k1,fun h0 => h.live N h0 (k2 (Nat.lt_of_lt_of_le h0 h.next))⟩
    · exact ⟨Nat.lt_of_lt_of_le (h2 N hN).1 g.next,(h2 N hN).2⟩
  · rw [List.mem_append,not_or] at hne
    exact (g.old N (Nat.lt_of_lt_of_le hN h.next) hne.1).trans (h3 N hN hne.2)
  · obtain ⟨N,c,c',k1,k2,k3,k4,k5⟩ := h.ids i hi
    obtain ⟨c2,k6,k7⟩ := g.later.H i c' k4
    exact ⟨N,c,c2,k1,g.later.ns i N k2,k3,k6,k5.trans k7⟩
def CallOk (T : Tab) (S : Sys U) (wr : Bool) (f : FuncId) (H : Hp U) (args : List (SV U)) (K : SV U → Hp U → Prop) : Prop := ∀ (X : Env U) (vals : List Value),X.H = H → HRel S X → DenL S X args vals → ∀ s : St,s.t = X.t → s.next = X.n →
  EndsCall T f vals s fun v s' => ∃ sv H' ns' d,K sv H' ∧ Den S ⟨X.wb,X.ns ++ ns',H',s'.t,s'.next⟩ sv v ∧ Step S X s ⟨X.wb,X.ns ++ ns',H',s'.t,s'.next⟩ s' d ∧ (wr = false → d = [])
def EndsYield (T : Tab) (L : Nat) (args : List Value) (s : St) (Q : Value → St → Prop) : Prop := ∃ k v s',round (evCode T k) L args s = some (v,s') ∧ Q v s'
def PostW (S : Sys U) (K : SV U → Hp U → Prop) (X : Env U) (s : St) (v : Value) (s' : St) : Prop := ∃ sv H' ns' d,K sv H' ∧ Den S ⟨X.wb,X.ns ++ ns',H',s'.t,s'.next⟩ sv v ∧ StepW S X s ⟨X.wb,X.ns ++ ns',H',s'.t,s'.next⟩ s' d
def RndOk (T : Tab) (S : Sys U) (R : Env U → Prop) (hs : Spec U) (i : Nat) : Prop := ∀ H args K,hs.run H args K → ∀ (X : Env U) (vals : List Value),X.H = H → HRel S X → R X → DenL S X args vals → ∀ s : St,s.t = X.t → s.next = X.n → ∀ N,X.ns[i]? = some (some N) → EndsYield T N vals s (PostW S K X s)
def CallsOk (T : Tab) (S : Sys U) (C : FuncId → Option (Spec U)) (R : Env U → Prop) : Prop := (∀ X X',Later X X' → R X → R X') ∧ ∀ g sp,C g = some sp → (g < YB → ∀ H args K,sp.run H args K → CallOk T S sp.wr g H args K) ∧ (∀ i,g = YB + i → RndOk T S R sp i)
def ItsOk (T : Tab) (S : Sys U) (I : FuncId → Option (Spec U → Nat → Spec U)) : Prop := ∀ g it,I g = some it → ∀ (hs : Spec U) (i : Nat) (R : Env U → Prop),hs.wr = true → (∀ X X',Later X X' → R X → R X') → RndOk T S R hs i → ∀ H args K,(it hs i).run H args K → ∀ (X : Env U) (vals : List Value),X.H = H → HRel S X → R X → DenL S X args vals → ∀ s : St,s.t = X.t → s.next = X.n →
  EndsCall T g vals s fun v s' => ∃ sv H' ns' d,K sv H' ∧ Den S ⟨X.wb,X.ns ++ ns',H',s'.t,s'.next⟩ sv v ∧ Step S X s ⟨X.wb,X.ns ++ ns',H',s'.t,s'.next⟩ s' d
theorem conAt_set_self : ∀ (H : Hp U) (i : Nat) (c : Con U),i < H.length → conAt (H.set i c) i = c
  | [],i,c,h => by simp at h
  | a :: l,0,c,_ => rfl
  | a :: l,i + 1,c,h => conAt_set_self l i c (by simpa using h)
theorem conAt_set_ne : ∀ (H : Hp U) (i j : Nat) (c : Con U),i ≠ j → conAt (H.set j c) i = conAt H i
  | [],i,j,c,_ => rfl
  | a :: l,0,0,c,h => absurd rfl h
  | a :: l,0,j + 1,c,_ => rfl
  | a :: l,i + 1,0,c,_ => rfl
  | a :: l,i + 1,j + 1,c,h => conAt_set_ne l i j c (by omega)
theorem frzH_at : ∀ {ids : List Nat} {H : Hp U} {i : Nat} {fz ex : Bool} {e c : Nat} {d : List (U c)},conAt H i = .list fz ex e c d → ∃ fz',conAt (frzH H ids) i = .list fz' ex e c d ∧ (i ∈ ids → fz' = true)
  | [],H,i,fz,ex,e,c,d,h => ⟨fz,h,fun h => by cases h⟩
  | j :: ids,H,i,fz,ex,e,c,d,h => by
    obtain ⟨fz',h1,h2⟩ := frzH_at (ids := ids) h
    unfold frzH
    by_cases hij : i = j
    · subst hij
      rw [h1]
      refine ⟨true,?_,fun _ => rfl⟩
      have hl := (List.getElem?_eq_some_iff.1 (conAt_get h1 (by simp))).1
      simp only
      rw [setC_eq]
      exact conAt_set_self _ _ _ hl
    · refine ⟨fz',?_,fun h3 => ?_⟩
      · split
        · rw [setC_eq,conAt_set_ne _ _ _ _ hij]; exact h1
        · rw [setC_eq,conAt_set_ne _ _ _ _ hij]; exact h1
        · exact h1
      · rcases List.mem_cons.1 h3 with h3 | h3
        · exact absurd h3 hij
        · exact h2 h3
theorem frzH_atC : ∀ {ids : List Nat} {H : Hp U} {i : Nat} {fz : Bool} {e : Nat} {vs : List (SV U)},conAt H i = .cells fz e vs → ∃ fz',conAt (frzH H ids) i = .cells fz' e vs ∧ (i ∈ ids → fz' = true)
  | [],H,i,fz,e,vs,h => ⟨fz,h,fun h => by cases h⟩
  | j :: ids,H,i,fz,e,vs,h => by
    obtain ⟨fz',h1,h2⟩ := frzH_atC (ids := ids) h
    unfold frzH
    by_cases hij : i = j
    · subst hij
      rw [h1]
      refine ⟨true,?_,fun _ => rfl⟩
      have hl := (List.getElem?_eq_some_iff.1 (conAt_get h1 (by simp))).1
      simp only
      rw [setC_eq]
      exact conAt_set_self _ _ _ hl
    · refine ⟨fz',?_,fun h3 => ?_⟩
      · split
        · rw [setC_eq,conAt_set_ne _ _ _ _ hij]; exact h1
        · rw [setC_eq,conAt_set_ne _ _ _ _ hij]; exact h1
        · exact h1
      · rcases List.mem_cons.1 h3 with h3 | h3
        · exact absurd h3 hij
        · exact h2 h3
theorem frzH_ghost {X : Env U} (hr : HRel S X) : ∀ ids : List Nat,Ghost S X (frzH X.H ids)
  | [] => Ghost.refl hr
  | j :: ids => by
    have ih := frzH_ghost hr ids
    unfold frzH
    split
    · rename_i fz ex e c d hc
      rw [setC_eq]
      obtain ⟨g1,g2⟩ := HRel.frz (X := X.setH (frzH X.H ids)) ih.rel (conAt_get hc (by simp))
      exact ih.trans ⟨g1,g2,fun N hN => Later.liveN_frz (X := X.setH (frzH X.H ids)) hN⟩
    · rename_i fz e vs hc
      rw [setC_eq]
      obtain ⟨g1,g2⟩ := HRel.frzC (X := X.setH (frzH X.H ids)) ih.rel (conAt_get hc (by simp))
      exact ih.trans ⟨g1,g2,fun N hN => Later.liveN_frzC (X := X.setH (frzH X.H ids)) hN⟩
    · exact ih
theorem viewB_den (ok : SysOk T S) {X : Env U} (hr : HRel S X) {ids : List Nat} {v : SV U} {w : Value} (hi : ∀ i ∈ boxOf v,i ∈ ids) (d : Den S X v w) : Den S (X.setH (frzH X.H ids)) (viewB S X.H v) w := by
  have G := frzH_ghost hr ids
  have d' := d.later G.later
  unfold viewB
  split
  · rename_i i
    split
    · rename_i fz e vs hc
      split
      · rename_i x hx
        obtain ⟨fz',k1,k2⟩ := frzH_atC (ids := ids) hc
        have := k2 (hi i (by simp [boxOf]))
        subst this
        have hg := conAt_get k1 (by simp)
        cases d' with
        | ptr hN _ =>
          rename_i N
          obtain ⟨M,ws,q0,q1,q2,q3,q4⟩ := G.rel.ok i _ _ hg hN
          cases q0
          have hd := ok.of _ _ _ hx _ _ q2
          have hl : ws.length = S.k (S.ty e) := by rw [hd.len,(ok.cells _ _).1]
          refine DenL.rp (b := 0) (p := 0) q1 q3 (q4 rfl) ?_ hd .nil
          unfold Ev.slice
          simp only [List.drop_zero]
          rw [if_pos (by rw [← hl]; simp),← hl,List.take_length]
      · exact d'
    · exact d'
  · exact d'
theorem viewBs_den (ok : SysOk T S) {X : Env U} (hr : HRel S X) {ids : List Nat} : ∀ {l : List (SV U)} {vs : List Value},(∀ i ∈ boxesOf l,i ∈ ids) → DenL S X l vs → DenL S (X.setH (frzH X.H ids)) (mapSV (viewB S X.H) l) vs
  | [],vs,_,d => by cases d; exact .nil
  | v :: l,vs,hi,d => by
    obtain ⟨w,ws,rfl,d1,d2⟩ := d.uncons
    exact DenL.cons (viewB_den ok hr (fun i h => hi i (List.mem_append_left _ h)) d1) (viewBs_den ok hr (fun i h => hi i (List.mem_append_right _ h)) d2)
theorem view_den (ok : SysOk T S) {X : Env U} (hr : HRel S X) {ids : List Nat} : ∀ {l : List (SV U)} {vs : List Value},(∀ i ∈ olsOf l,i ∈ ids) → DenL S X l vs → DenL S (X.setH (frzH X.H ids)) (viewL S X.H l) vs
  | [],vs,_,d => by cases d; exact .nil
  | v :: l,vs,hi,d => by
    obtain ⟨w,ws,rfl,d1,d2⟩ := d.uncons
    have G := frzH_ghost hr ids
    cases v with
    | ol i =>
      have h2 := view_den ok hr (ids := ids) (fun j hj => hi j (List.mem_cons_of_mem _ hj)) d2
      unfold viewL
      split
      · rename_i fz ex e c q hc
        obtain ⟨fz',k1,k2⟩ := frzH_at (ids := ids) hc
        have := k2 (hi i List.mem_cons_self)
        subst this
        have hg := conAt_get k1 (by simp)
        have hf := frz_den (X := X.setH (frzH X.H ids)) G.rel hg (d1.later G.later)
        have he : (⟨(X.setH (frzH X.H ids)).wb,(X.setH (frzH X.H ids)).ns,(X.setH (frzH X.H ids)).H.set i (.list true ex e c q),(X.setH (frzH X.H ids)).t,(X.setH (frzH X.H ids)).n⟩ : Env U) = X.setH (frzH X.H ids) := by
          have : (frzH X.H ids).set i (.list true ex e c q) = frzH X.H ids := by
            apply List.ext_getElem?
            intro j
            by_cases hj : i = j
            · subst hj
              have hl := (List.getElem?_eq_some_iff.1 hg).1
              rw [List.getElem?_set_self hl]; exact hg.symm
            · rw [List.getElem?_set_ne hj]
          show (⟨X.wb,X.ns,(frzH X.H ids).set i (.list true ex e c q),X.t,X.n⟩ : Env U) = ⟨X.wb,X.ns,frzH X.H ids,X.t,X.n⟩
          rw [this]
        rw [he] at hf
        exact DenL.cons hf h2
      · exact DenL.cons (d1.later G.later) h2
    | osl i lo n =>
      have h2 := view_den ok hr (ids := ids) (fun j hj => hi j (List.mem_cons_of_mem _ hj)) d2
      unfold viewL
      split
      · rename_i fz ex e c q hc
        obtain ⟨fz',k1,k2⟩ := frzH_at (ids := ids) hc
        have := k2 (hi i List.mem_cons_self)
        subst this
        have hg := conAt_get k1 (by simp)
        have hf := frz_oden (X := X.setH (frzH X.H ids)) G.rel hg (d1.later G.later)
        have he : (⟨(X.setH (frzH X.H ids)).wb,(X.setH (frzH X.H ids)).ns,(X.setH (frzH X.H ids)).H.set i (.list true ex e c q),(X.setH (frzH X.H ids)).t,(X.setH (frzH X.H ids)).n⟩ : Env U) = X.setH (frzH X.H ids) := by
          have : (frzH X.H ids).set i (.list true ex e c q) = frzH X.H ids := by
            apply List.ext_getElem?
            intro j
            by_cases hj : i = j
            · subst hj
              have hl := (List.getElem?_eq_some_iff.1 hg).1
              rw [List.getElem?_set_self hl]; exact hg.symm
            · rw [List.getElem?_set_ne hj]
          show (⟨X.wb,X.ns,(frzH X.H ids).set i (.list true ex e c q),X.t,X.n⟩ : Env U) = ⟨X.wb,X.ns,frzH X.H ids,X.t,X.n⟩
          rw [this]
        rw [he] at hf
        exact DenL.cons hf h2
      · exact DenL.cons (d1.later G.later) h2
    | func g a c =>
      have h2 := view_den ok hr (ids := ids) (fun j hj => hi j (by simp only [olsOf,List.mem_append]; exact .inr (.inr hj))) d2
      cases d1 with
      | func da dc _ =>
        refine DenL.cons (.func (viewBs_den ok hr (fun j hj => hi j ?_) da) (viewBs_den ok hr (fun j hj => hi j ?_) dc) .nil) h2
        · simp only [olsOf,List.mem_append]; exact .inl hj
        · simp only [olsOf,List.mem_append]; exact .inr (.inl hj)
    | _ =>
      have h2 := view_den ok hr (ids := ids) (fun j hj => hi j (by simpa [olsOf] using hj)) d2
      exact DenL.cons (d1.later G.later) h2
theorem plain1_den {X Y : Env U} {v : SV U} {w : Value} (h : plain1 v = true) (d : Den S X v w) : Den S Y v w := by
  cases v <;> first | (cases h; done) | (cases d <;> first | exact .int .nil | exact .bool .nil | exact .str .nil | exact .nilP .nil | exact .nilS .nil | exact .nilF .nil | exact .nilI .nil | exact .nilM .nil)
theorem plain1s_den {X Y : Env U} : ∀ {l : List (SV U)} {vs : List Value},(∀ v ∈ l,∀ w,Den S X v w → Den S Y v w) → DenL S X l vs → DenL S Y l vs
  | [],vs,_,d => by cases d; exact .nil
  | v :: l,vs,h,d => by
    obtain ⟨w,ws,rfl,d1,d2⟩ := d.uncons
    exact DenL.cons (h v List.mem_cons_self w d1) (plain1s_den (fun v hv => h v (List.mem_cons_of_mem _ hv)) d2)
theorem plainV_den {X Y : Env U} {v : SV U} {w : Value} (h : plainV v = true) (d : Den S X v w) : Den S Y v w := by
  cases v with
  | agg l =>
    obtain ⟨vs,rfl,d'⟩ := agg_inv d
    exact .agg (plain1s_den (fun v hv w hw => plain1_den (List.all_eq_true.1 h v hv) hw) d') .nil
  | tup l =>
    obtain ⟨vs,rfl,d'⟩ := tup_inv d
    refine .tup (plain1s_den (fun v hv w hw => ?_) d') .nil
    have h1 := List.all_eq_true.1 h v hv
    rw [Bool.or_eq_true] at h1
    rcases h1 with h1 | h1
    · exact plain1_den h1 hw
    · cases v with
      | iface t x => obtain ⟨u,rfl,d2⟩ := iface_inv hw; exact .iface (plain1_den h1 d2) .nil
      | _ => cases h1
  | iface t x => obtain ⟨u,rfl,d2⟩ := iface_inv d; exact .iface (plain1_den h d2) .nil
  | _ => exact plain1_den h d
theorem Step.ext {X : Env U} (hr : HRel S X) {s s' : St} (h1 : s.t = X.t) (h2 : s.next = X.n) (hn : s.next ≤ s'.next) (hm : s'.mods = s.mods) (hg : ∀ N,N < s.next → s'.t.get N = s.t.get N) : Step S X s ⟨X.wb,X.ns ++ [],X.H,s'.t,s'.next⟩ s' [] := by
  have hL : Later X ⟨X.wb,X.ns ++ [],X.H,s'.t,s'.next⟩ := Later.of (fun i c h => ⟨c,h,Same.refl _⟩) (fun i c k1 k2 N k3 _ => ⟨i,c,by rw [List.append_nil] at k3; exact k3,k1,k2⟩) (fun N hN _ => by rw [← h1]; exact hg N (by omega)) (by omega)
  rw [List.append_nil] at hL ⊢
  refine ⟨rfl,rfl,rfl,⟨hr.len,fun i c N k1 k2 => (hr.ok i c N k1 k2).later hL fun M hM => ?_,hr.inj,fun i N k => ⟨Nat.lt_of_lt_of_le (hr.lt i N k).1 (by show X.n ≤ s'.next; omega),(hr.lt i N k).2⟩,fun N hN => Nat.lt_of_lt_of_le (hr.wbl N hN) (by show X.n ≤ s'.next; omega)⟩,hL,hn,fun _ _ h => h,by rw [hm]; rfl,(fun _ h => by cases h),fun N hN _ => hg N hN,List.prefix_refl _⟩
  subst hM
  show s'.t.get M = _
  rw [← h1]; exact hg M (by rw [h2]; exact (hr.lt i M k2).1)
def Did' (T : Tab) (S : Sys U) (X : Env U) (w : Bool) (K : SV U → Hp U → Prop) (g : FuncId) (vals : List Value) (s : St) : Prop := EndsCall T g vals s fun v s' => ∃ sv H' ns' d,K sv H' ∧ Den S ⟨X.wb,X.ns ++ ns',H',s'.t,s'.next⟩ sv v ∧ Step S X s ⟨X.wb,X.ns ++ ns',H',s'.t,s'.next⟩ s' d ∧ (w = false → d = [])
theorem call_sound (ok : SysOk T S) {C : FuncId → Option (Spec U)} {R : Env U → Prop} (hC : CallsOk T S C R) {X : Env U} (hr : HRel S X) {g : FuncId} {args : List (SV U)} {vals : List Value} {K : SV U → Hp U → Prop} (h : callStep S C X.H g args K) (hg : g < YB) (hd : DenL S X args vals) {s : St} (h1 : s.t = X.t) (h2 : s.next = X.n) : Did' T S X (match C g with | some sp => sp.wr | none => true) K g vals s := by
  unfold callStep at h
  split at h
  · rename_i sp hsp
    rw [hsp]
    cases ho : sp.own with
    | true => rw [ho] at h; exact (hC.2 g sp hsp).1 hg _ _ _ h X vals rfl hr hd s h1 h2
    | false =>
    rw [ho] at h
    simp only [cond_false] at h
    split at h
    · exact (hC.2 g sp hsp).1 hg _ _ _ h X vals rfl hr hd s h1 h2
    · rename_i ids _
      have G := frzH_ghost hr (olsOf args)
      have hv := view_den ok hr (ids := olsOf args) (fun i hi => hi) hd
      refine ((hC.2 g sp hsp).1 hg _ _ _ h (X.setH (frzH X.H (olsOf args))) vals rfl G.rel hv s h1 h2).mono fun v s' ⟨sv,H',ns',d,k1,k2,k3,k4⟩ => ?_
      cases hp : plainV sv && !sp.wr with
      | false =>
        rw [hp] at k1
        exact ⟨sv,H',ns',d,k1,k2,⟨rfl,rfl,rfl,k3.rel,G.later.trans k3.later,k3.next,fun N hN hl => G.live N (k3.live N hN hl),k3.mods,fun N hN => ⟨(k3.dl N hN).1,G.live N (k3.dl N hN).2⟩,k3.old,k3.ns⟩,k4⟩
      | true =>
        rw [hp] at k1
        obtain ⟨p1,p2⟩ := and_tt hp
        have hwr : sp.wr = false := by cases h : sp.wr with
          | false => rfl
          | true => rw [h] at p2; cases p2
        have := k4 hwr
        subst this
        exact ⟨sv,X.H,[],[],k1,plainV_den p1 k2,Step.ext hr h1 h2 k3.next k3.mods fun N hN => k3.old N hN (by simp),fun _ => rfl⟩
  · exact h.elim
def OpOk (T : Tab) (S : Sys U) (X : Env U) (w : Bool) (K : SV U → Hp U → Prop) (fr : Fr) (o : Oper) (s : St) : Prop := ∃ k v s',evOp T (evCode T k) fr o s = some (v,s') ∧ ∃ sv H' ns' d,K sv H' ∧ Den S ⟨X.wb,X.ns ++ ns',H',s'.t,s'.next⟩ sv v ∧ Step S X s ⟨X.wb,X.ns ++ ns',H',s'.t,s'.next⟩ s' d ∧ (w = false → d = [])
theorem evOp_plain {rec : RunCode} {fr : Fr} {o : Oper} (h : noCall o.op = true) : evOp T rec fr o = evPlain T fr.eval o.op := by
  unfold evOp
  split
  · rename_i f args ts hop; rw [hop] at h; cases h
  · rfl
theorem BigOk.op {w0 : Bool} {X : Env U} {K : SV U → Hp U → Prop} {fr : Fr} {o : Oper} (hc : noCall o.op = true) (h : BigOk S X w0 K (evPlain T fr.eval o.op)) {s : St} (h1 : s.t = X.t) (h2 : s.next = X.n) : OpOk T S X w0 K fr o s := by
  obtain ⟨sv,H',v,s',ns',d,k1,k2,k3,k4,_,k5⟩ := h s h1 h2
  exact ⟨0,v,s',by rw [evOp_plain hc]; exact k2,sv,H',ns',d,k1,k3,k4,k5⟩
theorem still_op {X : Env U} (hr : HRel S X) {K : SV U → Hp U → Prop} {fr : Fr} {o : Oper} (hc : noCall o.op = true) {s : St} (h1 : s.t = X.t) (h2 : s.next = X.n) {sv : SV U} {v : Value} (k1 : K sv X.H) (k2 : Den S X sv v) (k3 : evPlain T fr.eval o.op s = some (v,s)) {w : Bool} : OpOk T S X w K fr o s := by
  have : (⟨X.wb,X.ns ++ [],X.H,s.t,s.next⟩ : Env U) = X := by rw [List.append_nil,h1,h2]
  exact ⟨0,v,s,by rw [evOp_plain hc]; exact k3,sv,X.H,[],[],k1,by rw [this]; exact k2,by rw [this]; exact Step.refl hr h1 h2,fun _ => rfl⟩
theorem yld_inv {X : Env U} {i : Nat} {w : Value} (h : Den S X (.yld i) w) : ∃ N,X.ns[i]? = some (some N) ∧ w = .func (.yield N) #[] #[] := by cases h; exact ⟨_,by assumption,rfl⟩
theorem yield_sound {C : FuncId → Option (Spec U)} {R : Env U → Prop} (hC : CallsOk T S C R) {nt : Nat} {X : Env U} (hRX : R X) {F : Frm U} {fr : Fr} {s : St} (hR : Rl S nt dq X F fr s) {o : Oper} {K : SV U → Hp U → Prop} (hy : isY F o.op = true) (h : step S C F X.H o.op K) : ∃ k v s',evOp T (evCode T k) fr o s = some (v,s') ∧ PostW S K X s v s' := by
  unfold isY at hy
  split at hy
  · rename_i f a ts ho
    split at hy
    · rename_i i he
      rw [ho] at h
      have h : bigStep S C F X.H (.call ⟨.value f,a,ts⟩) K := h
      simp only [bigStep,he] at h
      unfold yldStep at h
      split at h
      · rename_i sp hsp
        obtain ⟨_,h⟩ := bif_true h
        have hf := evo_den hR.frm f
        rw [he] at hf
        obtain ⟨N,hN,hw⟩ := yld_inv hf
        obtain ⟨k,v,s',k1,k2⟩ := (hC.2 _ sp hsp).2 i rfl _ _ _ h X _ rfl hR.rel hRX (evos_den hR.frm _) s hR.t.symm hR.n.symm N hN
        refine ⟨k,v,s',?_,k2⟩
        unfold evOp
        rw [ho]
        simp only [callValue,hw]
        exact k1
      · exact h.elim
    · cases hy
  · cases hy
theorem step_sound (ok : SysOk T S) (hsz : ∀ e,S.size e < END) {C : FuncId → Option (Spec U)} {R : Env U → Prop} (hC : CallsOk T S C R) {nt : Nat} {X : Env U} (hRX : R X) {F : Frm U} {fr : Fr} {s : St} (hR : Rl S nt dq X F fr s) {o : Oper} {K : SV U → Hp U → Prop} (hy : isY F o.op = false) (h : step S C F X.H o.op K) : OpOk T S X (kindO o.op != 1 && writes C F X.H o.op) K fr o s := by
  have h1 := hR.t.symm
  have h2 := hR.n.symm
  have kcall : kindO o.op ≠ 3 → noCall o.op = true := by
    intro h
    cases ho : o.op with
    | call c =>
      obtain ⟨f,a,ts⟩ := c
      cases f with
      | value f => rw [ho] at h; exact absurd rfl h
      | _ => rfl
    | _ => rfl
  unfold step at h
  split at h
  · rename_i hk
    obtain ⟨sv,v,k1,k2,k3⟩ := pure_sound ok hR.rel hR.frm h
    exact still_op hR.rel (kcall (by rw [hk]; decide)) h1 h2 k1 k2 (k3 s)
  · rename_i hk
    obtain ⟨sv,H',v,vs,e,k1,k2,k3⟩ := lay_sound ok hR.rel hR.frm h
    obtain ⟨s',a1,a2,a3,a4⟩ := Laid.run (run := evPlain T fr.eval o.op) k1 k2 (fun s hs hn => k3 s hn) s h1 h2
    exact ⟨0,v,s',by rw [evOp_plain (kcall (by rw [hk]; decide))]; exact a2,sv,H',_,[],a1,a3,a4,fun _ => rfl⟩
  · rename_i hk
    obtain ⟨sv,v,t,a,N,p,k1,k2,k3,k4,_,_,k5⟩ := load_sound ok hR.rel hR.frm h
    exact still_op hR.rel (kcall (by rw [hk]; decide)) h1 h2 k1 k2 (k5 s (by rw [h1]))
  · cases ho : o.op with
    | store t a x =>
      rw [ho] at h
      show OpOk T S X true K fr o s
      exact BigOk.op (by rw [ho]; rfl) (by rw [ho]; exact store_sound ok hR.rel hR.frm h) h1 h2
    | range t x =>
      rw [ho] at h
      show OpOk T S X true K fr o s
      exact BigOk.op (by rw [ho]; rfl) (by rw [ho]; exact range_op_sound ok hR.rel hR.frm h) h1 h2
    | next x b =>
      rw [ho] at h
      show OpOk T S X true K fr o s
      exact BigOk.op (by rw [ho]; rfl) (by rw [ho]; exact next_op_sound hR.rel hR.frm h) h1 h2
    | convert a b x =>
      rw [ho] at h
      obtain ⟨sv,v,k1,k2,k3⟩ := convert_sound ok hR.frm h
      exact still_op hR.rel (by rw [ho]; rfl) h1 h2 k1 k2 (by rw [ho]; exact k3 s)
    | call c =>
      obtain ⟨f,a,ts⟩ := c
      cases f with
      | builtin b =>
        cases b with
        | append =>
          rw [ho] at h
          show OpOk T S X (writes C F X.H (.call ⟨.builtin .append,a,ts⟩)) K fr o s
          exact BigOk.op (by rw [ho]; rfl) (by rw [ho]; exact append_sound ok hsz hR.rel hR.frm h) h1 h2
        | copy =>
          rw [ho] at h
          show OpOk T S X true K fr o s
          exact BigOk.op (by rw [ho]; rfl) (by rw [ho]; exact copy_sound ok hR.rel hR.frm h) h1 h2
        | clear =>
          rw [ho] at h
          show OpOk T S X true K fr o s
          exact BigOk.op (by rw [ho]; rfl) (by rw [ho]; exact clear_sound ok hR.rel hR.frm h) h1 h2
        | _ => rw [ho] at h; exact h.elim
      | value f =>
        rw [ho] at h
        simp only [bigStep] at h
        split at h
        · rename_i g b c he
          obtain ⟨hlt,h⟩ := bif_true h
          have hlt : g < YB := Nat.le_of_ble_eq_true hlt
          have hf := evo_den hR.frm f
          rw [he] at hf
          obtain ⟨bs,cs,hw,d1,d2⟩ := func_inv hf
          have hd : DenL S X (b ++ (a.toList.map (evo F) ++ c)) (bs ++ (a.toList.map fr.eval ++ cs)) := by
            have app : ∀ {l m : List (SV U)} {vs ws : List Value},DenL S X l vs → DenL S X m ws → DenL S X (l ++ m) (vs ++ ws) := by
              intro l
              induction l with
              | nil => intro m vs ws h h'; cases h; exact h'
              | cons v l ih =>
                intro m vs ws h h'
                obtain ⟨w,us,rfl,g1,g2⟩ := h.uncons
                exact DenL.cons g1 (ih g2 h')
            exact app d1 (app (evos_den hR.frm _) d2)
          obtain ⟨k,v,s',k1,k2⟩ := call_sound ok hC hR.rel h hlt hd h1 h2
          have hwe : (kindO (.call ⟨.value f,a,ts⟩) != 1 && writes C F X.H (.call ⟨.value f,a,ts⟩)) = (match C g with | some sp => sp.wr | none => true) := by
            show writes C F X.H (.call ⟨.value f,a,ts⟩) = _
            unfold writes; simp only [he]
            cases C g <;> rfl
          rw [hwe]
          refine ⟨k,v,s',?_,k2⟩
          unfold evOp
          rw [ho]
          simp only [callValue,hw,List.append_assoc]
          exact k1
        · rename_i i he
          rw [ho] at hy
          unfold isY at hy
          simp only [he] at hy
          cases hy
        · exact h.elim
      | invoke r m => rw [ho] at h; exact h.elim
    | _ => rw [ho] at h; exact h.elim
theorem gval_eq {F : Frm U} : ∀ (l : List Oper) (j : Nat),gval l F j = match (l[j]?).bind (·.dst) with | some d => get F d | none => .undef
  | [],j => by simp [gval]
  | o :: l,0 => by cases h : o.dst <;> simp [gval,h]
  | o :: l,j + 1 => by simp [gval,gval_eq l j]
theorem gval_sound {X : Env U} {F : Frm U} {tmps : List Value} (hF : FrmOk S X F tmps) {ops : Array Oper} {j : Nat} : (∀ b,gval ops.toList F j = .bool b → yieldedL ops tmps j = some b) ∧ (gval ops.toList F j = .skip → yieldedL ops tmps j = none) := by
  rw [gval_eq]
  unfold yieldedL
  rw [← Array.getElem?_toList]
  cases h : (ops.toList[j]?).bind (·.dst) with
  | none => exact ⟨fun b h => by simp at h,fun h => by simp at h⟩
  | some d =>
    have hd := hF d
    simp only [Option.bind_some]
    constructor
    · intro b hb
      rw [hb] at hd
      have := bool_inv hd
      rw [List.getD_eq_getElem?_getD] at this
      cases hx : tmps[d]? with
      | none => rw [hx] at this; cases this
      | some v => rw [hx] at this; simp at this; rw [this]
    · intro hb
      rw [hb] at hd
      have : tmps.getD d Go.undef = Go.undef := by generalize tmps.getD d Go.undef = w at hd; cases hd; rfl
      rw [List.getD_eq_getElem?_getD] at this
      cases hx : tmps[d]? with
      | none => rfl
      | some v => rw [hx] at this; simp at this; rw [this]; rfl
theorem FrmOk.put {X : Env U} {F : Frm U} {tmps : List Value} (hF : FrmOk S X F tmps) {d : Nat} {v : SV U} {w : Value} (hd : d < tmps.length) (h : Den S X v w) : FrmOk S X ((d,v) :: F) (tmps.set d w) := by
  intro t
  unfold get
  cases hb : Nat.beq t d with
  | true =>
    have := beq_nat hb; subst this
    rw [List.getD_eq_getElem?_getD,List.getElem?_set_self hd]; exact h
  | false =>
    have hne : d ≠ t := by intro e; subst e; rw [Nat.beq_refl] at hb; cases hb
    rw [List.getD_eq_getElem?_getD,List.getElem?_set_ne hne,← List.getD_eq_getElem?_getD]; exact hF t
theorem after_eq {nt : Nat} {dst : Option Nat} {F : Frm U} {v : SV U} {H : Hp U} {K : Frm U → Hp U → Prop} : after nt dst F v H K = match dst with
    | some d => bif Nat.blt d nt then K ((d,v) :: F) H else False
    | none => K F H := by
  unfold after
  rw [force_eq,forceH_eq]
  cases dst <;> rfl
theorem after_sound {nt : Nat} {X X' : Env U} {F : Frm U} {fr : Fr} {s s' : St} {d : List Nat} (hR : Rl S nt dq X F fr s) (g : StepW S X s X' s' d) {dst : Option Nat} {sv : SV U} {v : Value} (hd : Den S X' sv v) {K : Frm U → Hp U → Prop} (h : after nt dst F sv X'.H K) : ∃ F',K F' X'.H ∧ Rl S nt dq X' F' (fr.put dst v) s' := by
  rw [after_eq] at h
  have hF := hR.frm.later g.later
  cases dst with
  | none => exact ⟨F,h,g.t,g.n,g.rel,hF,hR.len,hR.dfs,hR.dqn,dq_later g.later hR.dqs⟩
  | some q =>
    obtain ⟨hq,h⟩ := bif_true h
    have hq : q < fr.tmps.length := by rw [hR.len]; exact Nat.le_of_ble_eq_true hq
    exact ⟨_,h,g.t,g.n,g.rel,hF.put hq hd,by show (fr.tmps.set q v).length = nt; rw [List.length_set]; exact hR.len,hR.dfs,hR.dqn,dq_later g.later hR.dqs⟩
end Go.Sx
