/-
  SX: the first seat: tables of contracts.
-/
import Derived.Test.YtelpkdjibjddlaaEvSxU
import Derived.Test.YtelpkdjibjddlaaEvSxY
import Derived.Test.YtelpkdjibjddlaaEvSxX2
set_option linter.unusedSimpArgs false
set_option linter.unusedVariables false
namespace Go.Sx
open Go Go.Ev Go.RowKit Go.Proofs
set_option maxRecDepth 100000
set_option maxHeartbeats 4000000
def SpecOk (T : Tab) (S : Sys U1) (f : FuncId) (sp : Spec U1) : Prop := ∀ H args K,sp.run H args K → CallOk T S sp.wr f H args K
def addC (f : FuncId) (sp : Spec U1) (C : FuncId → Option (Spec U1)) : FuncId → Option (Spec U1) := fun g => bif Nat.beq g f then some sp else C g
abbrev COk (C : FuncId → Option (Spec U1)) : Prop := CallsOk R1.T S1 C fun _ => True
theorem addC_ok {f : FuncId} {sp : Spec U1} {C : FuncId → Option (Spec U1)} (h : SpecOk R1.T S1 f sp) (hC : COk C) (hf : Nat.blt f YB = true := by rfl) : COk (addC f sp C) := by
  refine ⟨fun _ _ _ _ => trivial,fun g sp' hg => ?_⟩
  unfold addC at hg
  cases hb : Nat.beq g f with
  | true => rw [hb] at hg; cases hg; have := beq_nat hb; subst this; exact ⟨fun _ => h,fun i e => absurd (Nat.le_of_ble_eq_true hf) (by rw [e]; exact Nat.not_lt.2 (Nat.le_add_right _ _))⟩
  | false => rw [hb] at hg; exact hC.2 g sp' hg
def C0 : FuncId → Option (Spec U1) := fun _ => none
theorem C0_ok : COk C0 := ⟨fun _ _ _ _ => trivial,fun g sp h => by cases h⟩
theorem par_ok {C : FuncId → Option (Spec U1)} (hC : COk C) (nt m : Nat) : ParOk R1.T ⟨S1,C,nt,m,fun _ => none⟩ := ⟨sys1.1,sys1.2,hC,fun g it h => by cases h⟩
theorem st {C : FuncId → Option (Spec U1)} (hC : COk C) {f : FuncId} {nt : Nat} {body : Code} {rs : List ResultVar} {args : List (SV U1)} {H : Hp U1} {K : SV U1 → Hp U1 → Prop} (hF : R1.T.fn f = some ⟨nt,body,rs⟩) (hn : Nat.ble args.length nt = true) (ha : args.all (below 0) = true)
    (h : wp ⟨S1,C,nt,0,fun _ => none⟩ body (frm0 0 args) [] (fin ⟨S1,C,nt,0,fun _ => none⟩ rs fun v _ => K v H)) {wr : Bool} : CallOk R1.T S1 wr f H args K := CallOk.pure (p := ⟨S1,C,nt,0,fun _ => none⟩) (par_ok hC _ _) hF rfl (Nat.le_of_ble_eq_true hn) ha h
theorem std1 : Std S1 := ⟨rfl,rfl⟩
@[simp] theorem ed_eta (e : Ed) : (⟨e.lo,e.hi,⟨⟨B e.tx⟩⟩⟩ : Ed) = e := rfl
@[simp] theorem fl_eta (f : Fl) : (⟨⟨⟨B f.nm⟩⟩,⟨⟨B f.tx⟩⟩⟩ : Fl) = f := rfl
@[simp] theorem pt_eta (p : Pt) : (⟨⟨⟨B p.nm⟩⟩,p.es⟩ : Pt) = p := rfl
@[simp] theorem B_mk (x : List UInt8) : B ⟨⟨x⟩⟩ = x := rfl
theorem ed_den {X : Env U1} {l : List Ed} {a : Option Addr} {N o cap : Nat} {ws : List Value} {e hi : Nat} (hs : Sl Ed.cells 3 X.t X.n a l N o ws e hi) (hc : (a = none ∨ ∃ M p,a = some ⟨M,p,none⟩) ∧ (l.length ≤ cap ∧ cap < END ∨ cap = END + S1.k 0 ∨ l = [] ∧ cap = END + END)) (hf : ∀ N,¬ X.fb N) : Den S1 X (.sl 0 l) (.slice a l.length cap) := by
  obtain ⟨h1,h2,h3,h4⟩ := hs
  exact DenL.sl (N := N) (o := o) (cs := fun j => match l[j]? with | some x => Ed.cells x | none => []) hc (fun hd => ⟨h1 hd,(h2 hd).1,(h2 hd).2,hf N⟩) (fun j x hj => by simp only [hj]; exact h3 j x hj) (fun j x hj => by simp only [hj]; exact .int (.int (.str .nil))) h4 .nil
end Go.Sx

