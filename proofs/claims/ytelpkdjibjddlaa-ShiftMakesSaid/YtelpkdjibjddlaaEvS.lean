/-
  EV, PART O: what a step writes is told: names grow, and whatever turns is new or written down.
-/
import Derived.Test.YtelpkdjibjddlaaEvM
import Derived.Lib.MakeNoZero
import Derived.Orders
set_option linter.unusedSimpArgs false
set_option linter.unusedVariables false
namespace Go.Ev
open Go Go.RowKit
def Log (s s' : St) : Prop := s.next ≤ s'.next ∧ ∃ l,s'.mods = l ++ s.mods ∧ ∀ N,s'.t.get N ≠ s.t.get N → N ∈ l ∨ (s.next ≤ N ∧ N < s'.next)
theorem Log.refl (s : St) : Log s s := ⟨Nat.le_refl _,[],rfl,fun _ h => absurd rfl h⟩
theorem Log.trans {a b c : St} (h : Log a b) (k : Log b c) : Log a c := by
  obtain ⟨h1,l,h2,h3⟩ := h
  obtain ⟨k1,m,k2,k3⟩ := k
  refine ⟨Nat.le_trans h1 k1,m ++ l,by rw [k2,h2,List.append_assoc],fun N hN => ?_⟩
  by_cases e : c.t.get N = b.t.get N
  · rcases h3 N (by rw [← e]; exact hN) with h4 | h4
    · exact .inl (by simp [h4])
    · exact .inr ⟨h4.1,by omega⟩
  · rcases k3 N e with h4 | h4
    · exact .inl (by simp [h4])
    · exact .inr ⟨by omega,h4.2⟩
def Logs {α : Type} (m : M α) : Prop := ∀ s a s',m s = some (a,s') → Log s s'
theorem Logs.ret {α : Type} (a : α) : Logs (Ev.ret a) := fun s b s' h => by rw [(ret_some h).2]; exact .refl _
theorem Logs.fail {α : Type} : Logs (Ev.fail : M α) := fun s b s' h => by cases h
theorem Logs.lift {α : Type} (o : Option α) : Logs (Ev.lift o) := fun s b s' h => by rw [(lift_some h).2]; exact .refl _
theorem Logs.bnd {α β : Type} {m : M α} {f : α → M β} (h : Logs m) (hf : ∀ a,Logs (f a)) : Logs (Ev.bnd m f) := fun s b s' e => by
  obtain ⟨a,s1,h1,h2⟩ := bnd_some e
  exact (h _ _ _ h1).trans (hf a _ _ _ h2)
theorem Logs.newB (b : Blk) : Logs (Ev.newB b) := fun s N s' h => by
  obtain ⟨rfl,rfl⟩ := newB_some h
  refine ⟨Nat.le_succ _,[],rfl,fun N hN => ?_⟩
  by_cases e : N = s.next
  · subst e; exact .inr ⟨Nat.le_refl _,Nat.lt_succ_self _⟩
  · simp only [Tree.get_set_ne _ _ e] at hN; exact absurd rfl hN
theorem Logs.setB (N : Nat) (b : Blk) : Logs (Ev.setB N b) := fun s u s' h => by
  obtain ⟨_,rfl⟩ := setB_some h
  refine ⟨Nat.le_refl _,[N],rfl,fun M hM => ?_⟩
  by_cases e : M = N
  · exact .inl (by simp [e])
  · simp only [Tree.get_set_ne _ _ e] at hM; exact absurd rfl hM
theorem Logs.delB (N : Nat) : Logs (Ev.delB N) := fun s u s' h => by
  obtain ⟨_,rfl⟩ := delB_some h
  refine ⟨Nat.le_refl _,[N],rfl,fun M hM => ?_⟩
  by_cases e : M = N
  · exact .inl (by simp [e])
  · simp only [Tree.get_set_ne _ _ e] at hM; exact absurd rfl hM
theorem Logs.rowOf (N : Nat) : Logs (Ev.rowOf N) := fun s r s' h => by rw [(rowOf_some h).2]; exact .refl _
theorem Logs.addr (v : Value) : Logs (Ev.addr v) := fun s r s' h => by rw [(addr_some (v' := v) h).2]; exact .refl _
theorem Logs.getLoop (l : Nat) : Logs (Ev.getLoop l) := fun s r s' h => by
  unfold Ev.getLoop at h
  split at h
  · cases h; exact .refl _
  · cases h
theorem Logs.ite {α : Type} {c : Prop} [Decidable c] {a b : M α} (ha : Logs a) (hb : Logs b) : Logs (if c then a else b) := by split <;> assumption
section
variable {T : Tab}
theorem Logs.loadVar (t : TypeId) (N o : Nat) : Logs (Ev.loadVar T t N o) := by
  unfold Ev.loadVar
  refine .bnd (.rowOf _) fun x => ?_
  repeat' first | exact .ret _ | exact .fail | split
theorem Logs.storeCells (N o : Nat) (vs : List Value) : Logs (Ev.storeCells N o vs) := by
  unfold Ev.storeCells
  split
  · exact .ret _
  · refine .bnd (.rowOf _) fun x => ?_
    repeat' first | exact .ret _ | exact .fail | exact .setB _ _ | split
theorem Logs.storeVar (t : TypeId) (N o : Nat) (v : Value) : Logs (Ev.storeVar T t N o v) := by
  unfold Ev.storeVar
  repeat' first | exact .fail | exact .storeCells _ _ _ | split
theorem Logs.newRow (e : TypeId) (vs : List Value) : Logs (Ev.newRow e vs) := by
  unfold Ev.newRow
  exact .bnd (.newB _) fun _ => .ret _
theorem Logs.buildSlice (t : TypeId) (n : Nat) (p : List (Nat × Value)) : Logs (Ev.buildSlice T t n p) := by
  unfold Ev.buildSlice
  repeat' first | exact .fail | exact .bnd (.newB _) fun _ => .ret _ | split
theorem Logs.makeSlice (t : TypeId) (l c : Value) : Logs (Ev.makeSlice T t l c) := by
  unfold Ev.makeSlice
  repeat' first | exact .fail | exact .bnd (.newB _) fun _ => .ret _ | split
theorem Logs.strToBytes (e : TypeId) (l : List UInt8) : Logs (Ev.strToBytes e l) := by
  unfold Ev.strToBytes
  repeat' first | exact .fail | exact .bnd (.newB _) fun _ => .ret _ | split
theorem Logs.bytesToStr (N o n : Nat) : Logs (Ev.bytesToStr N o n) := by
  unfold Ev.bytesToStr
  exact .bnd (.rowOf _) fun x => .bnd (.lift _) fun _ => .ret _
theorem Logs.toUnsafe (t : TypeId) (N o : Nat) : Logs (Ev.toUnsafe T t N o) := by
  unfold Ev.toUnsafe
  split
  · exact .bnd (.rowOf _) fun x => .ite (.ret _) .fail
  · exact .fail
theorem Logs.fromUnsafe (t : TypeId) (N o : Nat) : Logs (Ev.fromUnsafe T t N o) := by
  unfold Ev.fromUnsafe
  split
  · exact .bnd (.rowOf _) fun x => .ite (.ret _) .fail
  · exact .fail
theorem Logs.convert (a b : TypeId) (x : Value) : Logs (Ev.convert T a b x) := by
  unfold Ev.convert Ev.convertD
  repeat' first | exact .fail | exact .ret _ | exact .strToBytes _ _ | exact .bytesToStr _ _ _ | exact .toUnsafe _ _ _ | exact .fromUnsafe _ _ _ | split
theorem Logs.firstCells (n k : Nat) (x : Value) : Logs (Ev.firstCells n k x) := by
  unfold Ev.firstCells
  repeat' first | exact .fail | exact .ret _ | exact .bnd (.rowOf _) fun _ => .lift _ | split
theorem Logs.append (ts : List TypeId) (args : List Value) : Logs (Ev.append T ts args) := by
  unfold Ev.append
  repeat' first | exact .fail | split
  unfold Ev.appendOf
  refine .bnd (.lift _) fun _ => .bnd (.lift _) fun _ => .bnd (.lift _) fun _ => .bnd (.lift _) fun _ => .bnd (.firstCells _ _ _) fun _ => ?_
  repeat' first | exact .fail | exact .ret _ | exact .bnd (.storeCells _ _ _) fun _ => .ret _ | split
  · unfold Ev.appendEnd
    refine .bnd (.rowOf _) fun x => .bnd (.lift _) fun _ => .ite ?_ .fail
    exact .bnd (.delB _) fun _ => .bnd (.newB _) fun _ => .ret _
  · unfold Ev.appendNew
    refine .bnd (.firstCells _ _ _) fun x => .ite ?_ .fail
    exact .bnd (.newB _) fun _ => .ret _
theorem Logs.builtin (b : Builtin) (ts : List TypeId) (args : List Value) : Logs (Ev.builtin T b ts args) := by
  unfold Ev.builtin
  split
  · exact .append _ _
  · unfold Ev.len; repeat' first | exact .fail | exact .ret _ | split
  · unfold Ev.copy; repeat' first | exact .fail | exact .ret _ | exact .bnd (.storeCells _ _ _) fun _ => .ret _ | refine .bnd (.firstCells _ _ _) fun _ => ?_ | split
  · unfold Ev.capOf; repeat' first | exact .fail | exact .ret _ | split
  · unfold Ev.clear; repeat' first | exact .fail | exact .ret _ | exact .bnd (.storeCells _ _ _) fun _ => .ret _ | split
  · exact .lift _
  · exact .lift _
  · exact .lift _
  · unfold Ev.unsafeStr
    repeat' first | exact .fail | exact .ret _ | exact .bnd (.setB _ _) fun _ => .ret _ | refine .bnd (.lift _) fun _ => ?_ | refine .bnd (.rowOf _) fun _ => ?_ | split
  · exact .fail
theorem Logs.rangeOp (t : TypeId) (x : Value) : Logs (Ev.rangeOp T t x) := by
  unfold Ev.rangeOp
  repeat' first | exact .fail | exact .bnd (.newB _) fun _ => .ret _ | split
theorem Logs.nextOp (x : Value) (b : Bool) : Logs (Ev.nextOp x b) := fun s a s' h => by
  unfold Ev.nextOp at h
  split at h
  · simp only at h
    split at h
    · split at h
      · exact Logs.bnd (.setB _ _) (fun _ => .ret _) _ _ _ h
      · cases h; exact .refl _
    · cases h
  · cases h
theorem Logs.mapOf (r : Nat) : Logs (Ev.mapOf r) := fun s a s' h => by
  rw [(mapOf_some h).2]; exact .refl _
theorem Logs.lookup (t : TypeId) (x k : Value) (ok : Bool) : Logs (Ev.lookup T t x k ok) := by
  unfold Ev.lookup
  refine .bnd (.lift _) fun _ => .bnd (.lift _) fun _ => ?_
  split
  · exact .ret _
  · exact .bnd (.mapOf _) fun _ => .bnd (.lift _) fun _ => .ret _
  · exact .fail
theorem Logs.mapUpdate (t : TypeId) (x k v : Value) : Logs (Ev.mapUpdate T t x k v) := by
  unfold Ev.mapUpdate
  refine .bnd (.lift _) fun _ => ?_
  split
  · refine .bnd (.mapOf _) fun _ => .bnd (.lift _) fun _ => ?_
    split <;> exact .setB _ _
  · exact .fail
theorem Logs.mapEntry (t : TypeId) (x k : Value) : Logs (Ev.mapEntry T t x k) := by
  unfold Ev.mapEntry
  refine .bnd (.lift _) fun _ => ?_
  split
  · refine .bnd (.mapOf _) fun _ => .bnd (.lift _) fun _ => ?_
    split
    · exact .ret _
    · exact .bnd (.lift _) fun _ => .bnd (.setB _ _) fun _ => .ret _
  · exact .fail
theorem Logs.entryStore (x k v : Value) : Logs (Ev.entryStore x k v) := by
  unfold Ev.entryStore
  repeat' first | exact .fail | exact .bnd (.mapOf _) fun _ => .bnd (.lift _) fun _ => .setB _ _ | split
theorem Logs.makeMap (t : TypeId) (r : Option Value) : Logs (Ev.makeMap T t r) := by
  unfold Ev.makeMap
  repeat' first | exact .fail | exact .bnd (.newB _) fun _ => .ret _ | split
theorem Logs.makeNoZero (t : TypeId) (args : List Value) : Logs (Ev.makeNoZero T t args) := by
  unfold Ev.makeNoZero
  repeat' first | exact .fail | exact .bnd (.newB _) fun _ => .ret _ | split
theorem Logs.plain (ρ : Operand → Value) (o : Op) : Logs (evPlain T ρ o) := by
  unfold evPlain
  split
  all_goals first
    | exact .ret _
    | exact .lift _
    | exact .fail
    | exact .newRow _ _
    | exact .bnd (.lift _) fun _ => .newRow _ _
    | exact .buildSlice _ _ _
    | exact .bnd (.addr _) fun _ => .loadVar _ _ _
    | exact .bnd (.bnd (.addr _) fun _ => .storeVar _ _ _ _) fun _ => .ret _
    | exact .convert _ _ _
    | exact .makeSlice _ _ _
    | exact .ite .fail (.lift _)
    | exact .makeMap _ _
    | exact .lookup _ _ _ _
    | exact .bnd (.mapUpdate _ _ _ _) fun _ => .ret _
    | exact .mapEntry _ _ _
    | exact .bnd (.entryStore _ _ _) fun _ => .ret _
    | exact .rangeOp _ _
    | exact .nextOp _ _
    | exact .builtin _ _ _
theorem Logs.takeDefers : ∀ ds,Logs (Ev.takeDefers ds)
  | [] => .ret _
  | d :: ds => fun s a s' h => by
    simp only [Ev.takeDefers] at h
    split at h
    · exact Logs.bnd (.setB _ _) (fun _ => Logs.takeDefers ds) _ _ _ h
    · cases h
theorem Logs.results (tmps : List Value) : ∀ rs,Logs (Ev.results T tmps rs)
  | [] => .ret _
  | .tmp t :: rs => .bnd (Logs.results tmps rs) fun _ => .ret _
  | .cell a t :: rs => by
    unfold Ev.results
    split
    · exact .bnd (.loadVar _ _ _) fun _ => .bnd (Logs.results tmps rs) fun _ => .ret _
    · exact .fail
theorem Logs.finishCall (F : Fn) (e : Ex) (fr : Fr) : Logs (Ev.finishCall T F e fr) := by
  unfold Ev.finishCall
  split
  · exact .fail
  · exact .bnd (.takeDefers _) fun _ => .bnd (.results _ _) fun _ => .ret _
theorem Logs.trim {α : Type} {m : M α} (h : Logs m) : Logs (trimMods m) := fun s a s' e => by
  unfold trimMods at e
  split at e
  · rename_i v s1 h1
    cases e
    obtain ⟨k1,l,k2,k3⟩ := h _ _ _ h1
    refine ⟨k1,newMods s s1,rfl,fun N hN => ?_⟩
    rcases k3 N hN with h4 | h4
    · by_cases hlt : N < s.next ∨ s1.next ≤ N
      · refine .inl ?_
        simp only [newMods,k2,List.length_append,Nat.add_sub_cancel,List.take_left',List.mem_filter]
        exact ⟨h4,by simpa using hlt⟩
      · exact .inr (by simp only; omega)
    · exact .inr h4
  · cases e
end
end Go.Ev

/-
  EV, PART N: frames and calls: what the evaluator's call returns, the machine's call returns.
-/
namespace Go.Ev
open Go Go.RowKit
inductive DRel (φ : Phi) : List Nat → List Deferred → Prop
  | nil : DRel φ [] []
  | cons {d : Nat} {L : Loc} {ds : List Nat} {Ds : List Deferred} (h : φ d = some L) (hr : DRel φ ds Ds) : DRel φ (d :: ds) ({ target := .collected L.blk,args := #[] } :: Ds)
theorem DRel.mono {φ φ' : Phi} (hle : φ.Le φ') {ds : List Nat} {Ds : List Deferred} (h : DRel φ ds Ds) : DRel φ' ds Ds := by
  induction h with
  | nil => exact .nil
  | cons h _ ih => exact .cons (hle _ _ h) ih
def RRel (φ : Phi) : Option Nat → Option Nat → Prop
  | none,none => True
  | some l,some l' => ∃ L,φ l = some L ∧ L.blk = l'
  | _,_ => False
theorem RRel.mono {φ φ' : Phi} (hle : φ.Le φ') {a b : Option Nat} (h : RRel φ a b) : RRel φ' a b := by
  cases a <;> cases b <;> simp only [RRel] at h ⊢
  obtain ⟨L,h1,h2⟩ := h
  exact ⟨L,hle _ _ h1,h2⟩
structure FRel (φ : Phi) (fr : Fr) (cx : Ctx) (fc : Frame) : Prop where
  fn : fc.fn = cx.fn
  mode : fc.mode = .run
  kind : fc.kind = .normal
  round : RRel φ cx.round fc.roundOf
  tmps : LRel φ fr.tmps fc.tmps.toList
  defers : DRel φ fr.defers fc.defers
theorem FRel.mono {φ φ' : Phi} (hle : φ.Le φ') {fr : Fr} {cx : Ctx} {fc : Frame} (h : FRel φ fr cx fc) : FRel φ' fr cx fc :=
  ⟨h.fn,h.mode,h.kind,h.round.mono hle,h.tmps.mono hle,h.defers.mono hle⟩
theorem FRel.todo {φ : Phi} {fr : Fr} {cx : Ctx} {fc : Frame} (h : FRel φ fr cx fc) (k : List Item) : FRel φ fr cx { fc with todo := k } :=
  ⟨h.fn,h.mode,h.kind,h.round,h.tmps,h.defers⟩
def GRel (φ : Phi) (G : Nat) : Prop := ∀ g,g < G → ∃ L,φ g = some L ∧ L.blk = g ∧ L.off = 0
theorem GRel.mono {φ φ' : Phi} (hle : φ.Le φ') {G : Nat} (h : GRel φ G) : GRel φ' G := fun g hg => let ⟨L,a,b⟩ := h g hg; ⟨L,hle _ _ a,b⟩
theorem LRel.getD {φ : Phi} {l l' : List Value} (h : LRel φ l l') (i : Nat) : VRel φ (l.getD i undef) (l'.getD i undef) := by
  by_cases hi : i < l.length
  · have hi' : i < l'.length := h.1 ▸ hi
    simp only [List.getD,List.getElem?_eq_getElem hi,List.getElem?_eq_getElem hi',Option.getD_some]
    exact h.2 i _ _ (List.getElem?_eq_getElem hi) (List.getElem?_eq_getElem hi')
  · have hi' : ¬ i < l'.length := h.1 ▸ hi
    simp only [List.getD,List.getElem?_eq_none (Nat.le_of_not_lt hi),List.getElem?_eq_none (Nat.le_of_not_lt hi'),Option.getD_none]
    exact .undef
theorem eval_rel {φ : Phi} {G : Nat} {tmps : List Value} {ds : List Nat} {fc : Frame} (ht : LRel φ tmps fc.tmps.toList) (hg : GRel φ G) {x : Operand} (hx : operandOk G x = true) : VRel φ ((Fr.mk tmps ds).eval x) (fc.eval x) := by
  cases x with
  | tmp t =>
    have := ht.getD t
    simp only [Fr.eval,Frame.eval]
    have e : fc.tmps.getD t undef = fc.tmps.toList.getD t undef := by simp [Array.getD_eq_getD_getElem?,List.getD]
    rw [e]; exact this
  | const v => exact (flatB_flat hx).vrel
  | global g =>
    obtain ⟨L,h1,h2,h3⟩ := hg g (by simpa [operandOk] using hx)
    have := VRel.ptr (φ := φ) (N := g) (o := 0) h1
    rw [h2,h3] at this
    exact this
  | func f => exact .func f _ _ _ _ rfl (fun i v v' h => by simp at h) rfl (fun i v v' h => by simp at h)
def Left (e : Ex) (K todo : List Item) : Prop :=
  match e with
  | .normal => todo = K
  | .exit id => ∃ K',todo = .code (.exit id) :: K' ∧ exitTo id K' = exitTo id K
  | .ret => ∃ K',todo = .code .ret :: K'
structure Aft (P : Program) (B : Base) (φ : Phi) (s : St) (w : World) (φ' : Phi) (s' : St) (w' : World) : Prop where
  next : s.next ≤ s'.next
  grows : Grows B φ φ' s.next s'.next
  rel : Rel φ' B s'.t.get w'
  keeps : KeepsB B w w'
theorem Aft.refl {P : Program} {B : Base} {φ : Phi} {s : St} {w : World} (h : Rel φ B s.t.get w) : Aft P B φ s w φ s w := ⟨Nat.le_refl _,.refl _ _ _,h,.refl _ _⟩
theorem Aft.trans {P : Program} {B : Base} {φ φ' φ'' : Phi} {s s' s'' : St} {w w' w'' : World} (h : Aft P B φ s w φ' s' w') (k : Aft P B φ' s' w' φ'' s'' w'') : Aft P B φ s w φ'' s'' w'' :=
  ⟨Nat.le_trans h.next k.next,h.grows.trans k.grows h.next k.next,k.rel,h.keeps.trans k.keeps⟩
theorem Aft.fresh {P : Program} {B : Base} {φ φ' : Phi} {s s' : St} {w w' : World} (h : Aft P B φ s w φ' s' w') {n : Nat} (hf : Fresh φ s.next n) : Fresh φ' s'.next n := hf.grown h.grows h.next
def CodeSim (T : Tab) (P : Program) (ok : Code → Prop) (rec : RunCode) : Prop :=
  ∀ cx c fr s e fr' s',rec cx c fr s = some ((e,fr'),s') → ok c → ∀ (φ : Phi) (B : Base) (w : World) (fc : Frame) (cs : List Frame) (K : List Item),B.sz = P.cellsOf → B.code = ok → Rel φ B s.t.get w → Fresh φ s.next s'.next → GRel φ T.globs →
    FRel φ fr cx fc → fc.todo = .code c :: K →
    ∃ φ' w' fc',Aft P B φ s w φ' s' w' ∧ FRel φ' fr' cx fc' ∧ Steps P (lone fc cs w) (lone fc' cs w') ∧ Left e K fc'.todo
def CallsTo (P : Program) (m : Sem Next) (fc : Frame) (cs : List Frame) (w : World) (v : Value) (w' : World) : Prop :=
  ∃ fr1 cs1 w1,(stepG.apply P true fc cs none m w).bare = .go { frame := fr1,callers := cs1,status := .running,dying := none } w1 ∧ Steps P (lone fr1 cs1 w1) (lone (fc.finish v) cs w')
def isCallItem : List Item → Bool
  | .call .. :: _ | .extern .. :: _ => true
  | _ => false
structure Tab.Fns (T : Tab) (P : Program) (ok : Code → Prop) : Prop where
  fn : ∀ f F, T.fn f = some F → ∃ fn, P.funcs[f]? = some fn ∧ fn.ntmps = F.ntmps ∧ fn.body = some F.body ∧ fn.results.toList = F.results ∧ (fn.name == "runtime.NumGoroutine") = false ∧ ok F.body
  ext : ∀ f g, T.ext f = some g → ∃ fn e, P.funcs[f]? = some fn ∧ (fn.name == "runtime.NumGoroutine") = false ∧ fn.body = none ∧ Extern.findNext fn = none ∧ Extern.find fn = some e ∧
    ∀ (φ : Phi) args args' v (w : World),g args = some v → LRel φ args args' → ∃ v',(e ⟨args'⟩).run P w = .ok v' w ∧ VRel φ v v'
  lay : ∀ f t, T.lay f = some t → ∃ fn, P.funcs[f]? = some fn ∧ (fn.name == "runtime.NumGoroutine") = false ∧ fn.body = none ∧ Extern.findNext fn = none ∧ ∃ ps, Extern.find fn = some (Extern.BytealgMakeNoZero.makeNoZero ps #[t])
section
variable {T : Tab} {P : Program} (hT : T.Ok P) {ok : Code → Prop} (hF : T.Fns P ok)
include hT hF
theorem sim_takeDefers {B : Base} {φ : Phi} : ∀ (ds : List Nat) (s s' : St) (u : Unit) (w : World) (fc : Frame) (cs : List Frame),takeDefers ds s = some (u,s') → Rel φ B s.t.get w → DRel φ ds fc.defers → fc.mode = .returning →
    s'.next = s.next ∧ ∃ w',Rel φ B s'.t.get w' ∧ KeepsB B w w' ∧ Steps P (lone fc cs w) (lone { fc with defers := [] } cs w')
  | [],s,s',u,w,fc,cs,h,hR,hD,hm => by
    have _ := hT
    have _ := hF
    obtain ⟨_,rfl⟩ := ret_some h
    have hd : fc.defers = [] := by cases hx : fc.defers with
      | nil => rfl
      | cons a b => rw [hx] at hD; cases hD
    refine ⟨rfl,w,hR,.refl _ _,?_⟩
    have : { fc with defers := [] } = fc := by rw [← hd]
    rw [this]; exact Steps.refl _ _
  | d :: ds,s,s',u,w,fc,cs,h,hR,hD,hm => by
    cases hx : fc.defers with
    | nil => rw [hx] at hD; cases hD
    | cons D Ds =>
      rw [hx] at hD
      cases hD with
      | @cons _ L _ _ hL hr =>
        simp only [takeDefers] at h
        split at h
        · rename_i hd
          obtain ⟨_,s1,h1,h2⟩ := bnd_some h
          obtain ⟨_,rfl⟩ := setB_some h1
          obtain ⟨L2,hL2,o',k1,k2,k3,k4⟩ := hR.blk d _ hd
          rw [hL] at hL2; cases hL2
          have ho : o' = .deferred (some []) := by
            cases o' <;> simp only [ORel] at k2 <;> try (exact k2.elim)
            rename_i x
            rcases x with _ | (_ | _) <;> first | rfl | exact k2.elim
          subst ho
          have hb : L.blk < w.heap.size := hR.inw _ _ hL
          have hR2 : Rel φ B (upd s.t.get d (some (.obj (.deferred none)))) { w with heap := w.heap.setIfInBounds L.blk (.deferred none) } :=
            hR.set hd hL trivial _ (by simp) (fun k hk => by simp [Ne.symm hk]) ⟨.deferred none,by simp [hb],trivial,k3,k4⟩
          have hK : KeepsB B w { w with heap := w.heap.setIfInBounds L.blk (.deferred none) } :=
            (Keeps.set (φ := φ) (w := w) (w' := { w with heap := w.heap.setIfInBounds L.blk (.deferred none) }) hd hL trivial rfl rfl rfl (by simp) (fun k hk => by simp [Ne.symm hk])).weak hR
          have ih := sim_takeDefers ds _ s' u { w with heap := w.heap.setIfInBounds L.blk (.deferred none) } { fc with defers := Ds } cs h2 (by simp only; rw [get_upd]; exact hR2) hr hm
          obtain ⟨i1,w',i2,i3,i4⟩ := ih
          exact ⟨i1,w',i2,hK.trans i3,Steps.head (st_mark hm hx k1) i4⟩
        · cases h
theorem sim_results {B : Base} {φ : Phi} {s : St} {w : World} (hR : Rel φ B s.t.get w) {tmps : List Value} {tmps' : Array Value} (ht : LRel φ tmps tmps'.toList) : ∀ (rs : List ResultVar) (vs : List Value) (s' : St),results T tmps rs s = some (vs,s') →
    s' = s ∧ ∃ vs',LRel φ vs vs' ∧ (rs.mapM (fun | .tmp t => pure (tmps'.getD t undef) | .cell a t => do Go.loadVar t (← asAddr (tmps'.getD a undef)) : ResultVar → Sem Value)).run P w = .ok vs' w
  | [],vs,s',h => by
    have _ := hF
    obtain ⟨rfl,rfl⟩ := ret_some h
    exact ⟨rfl,[],.nil,rfl⟩
  | .tmp t :: rs,vs,s',h => by
    unfold results at h
    obtain ⟨vs0,s1,h1,h2⟩ := bnd_some h
    obtain ⟨rfl,vs',h3,h4⟩ := sim_results hR ht rs vs0 s1 h1
    obtain ⟨rfl,rfl⟩ := ret_some h2
    have e : tmps'.getD t undef = tmps'.toList.getD t undef := by simp [Array.getD_eq_getD_getElem?,List.getD]
    refine ⟨rfl,tmps'.getD t undef :: vs',.cons (by rw [e]; exact ht.getD t) h3,?_⟩
    rw [List.mapM_cons]
    simp only [Sem.run_bind,Sem.run_pure,Result.andThen_ok,h4]
  | .cell a t :: rs,vs,s',h => by
    unfold results at h
    have e : tmps'.getD a undef = tmps'.toList.getD a undef := by simp [Array.getD_eq_getD_getElem?,List.getD]
    have hv := ht.getD a
    rw [← e] at hv
    generalize tmps.getD a undef = x at h hv
    generalize hx' : tmps'.getD a undef = x' at hv
    cases hv <;> (try simp only at h) <;> try (cases h; done)
    rename_i N o L hL
    obtain ⟨v,s1,h1,h2⟩ := bnd_some h
    obtain ⟨rfl,L2,v',hL2,h3,h4⟩ := sim_loadVar hT hR h1
    rw [hL] at hL2; cases hL2
    obtain ⟨vs0,s2,h5,h6⟩ := bnd_some h2
    obtain ⟨rfl,vs',h7,h8⟩ := sim_results hR ht rs vs0 s2 h5
    obtain ⟨rfl,rfl⟩ := ret_some h6
    refine ⟨rfl,v' :: vs',.cons h4 h7,?_⟩
    have ha : asAddr (tmps'.getD a undef) = pure ⟨L.blk,L.off + o,none⟩ := by rw [hx']; rfl
    rw [List.mapM_cons]
    simp only [Sem.run_bind,ha,Sem.run_pure,Result.andThen_ok,h3,h8]
omit hT hF in
theorem valOf_rel {φ : Phi} {vs vs' : List Value} (h : LRel φ vs vs') : VRel φ (valOf vs) (valOf vs') := by
  rcases vs with _ | ⟨a,_ | ⟨b,r⟩⟩
  · obtain rfl := h.nil_inv; exact .tuple _ _ rfl (fun i v v' hv => by simp at hv)
  · obtain ⟨a',r',rfl,ha,hr⟩ := h.cons_inv
    obtain rfl := hr.nil_inv
    exact ha
  · obtain ⟨a',r',rfl,ha,hr⟩ := h.cons_inv
    obtain ⟨b',r'',rfl,hb,hr2⟩ := hr.cons_inv
    exact .tuple _ _ h.1 h.2
omit hT hF in
theorem valOf_eq (vs : List Value) : valOf vs = (if h : (⟨vs⟩ : Array Value).size = 1 then (⟨vs⟩ : Array Value)[0] else .tuple ⟨vs⟩) := by
  rcases vs with _ | ⟨a,_ | ⟨b,r⟩⟩ <;> simp [valOf]
theorem sim_finishCall {B : Base} {φ : Phi} {s s' : St} {w : World} {F : Fn} {fn : Func} {e : Ex} {fr : Fr} {cx : Ctx} {fc c : Frame} {cs : List Frame} {v : Value} (hR : Rel φ B s.t.get w) (hfr : FRel φ fr cx fc) (hro : fc.roundOf = none)
    (hfn : P.funcs[fc.fn]? = some fn) (hres : fn.results.toList = F.results) (hl : Left e [] fc.todo) (h : finishCall T F e fr s = some (v,s')) :
    s'.next = s.next ∧ ∃ w' v',Rel φ B s'.t.get w' ∧ KeepsB B w w' ∧ VRel φ v v' ∧ Steps P (lone fc (c :: cs) w) (lone (c.finish v') cs w') := by
  have hret : ∃ todo,Steps P (lone fc (c :: cs) w) (lone { { fc with todo := todo } with mode := .returning } (c :: cs) w) ∧ (∃ hs : M Value,hs = (bnd (takeDefers fr.defers) fun _ => bnd (results T fr.tmps F.results) fun vs => ret (valOf vs)) ∧ hs s = some (v,s')) := by
    cases e with
    | normal => exact ⟨fc.todo,Steps.one (st_end hfr.mode hro hl),_,rfl,h⟩
    | ret =>
      obtain ⟨K',hk⟩ := hl
      exact ⟨fc.todo,Steps.one (st_ret hfr.mode hro hk),_,rfl,h⟩
    | exit id => cases h
  obtain ⟨todo,hst,hs,rfl,h⟩ := hret
  obtain ⟨_,s1,h1,h2⟩ := bnd_some h
  obtain ⟨i1,w1,i2,i3,i4⟩ := sim_takeDefers (cs := c :: cs) hT hF fr.defers s s1 _ w { { fc with todo := todo } with mode := .returning } h1 hR hfr.defers rfl
  obtain ⟨vs,s2,h3,h4⟩ := bnd_some h2
  obtain ⟨rfl,vs',h5,h6⟩ := sim_results hT hF i2 hfr.tmps F.results vs s2 h3
  obtain ⟨rfl,rfl⟩ := ret_some h4
  refine ⟨i1,w1,valOf vs',i2,i3,valOf_rel h5,hst.trans (i4.trans (Steps.one (st_return rfl rfl hfr.kind hfn ?_)))⟩
  have hm : (fn.results.mapM (fun | .tmp t => pure (fc.tmps.getD t undef) | .cell a t => do Go.loadVar t (← asAddr (fc.tmps.getD a undef)) : ResultVar → Sem Value)).run P w1 = .ok ⟨vs'⟩ w1 := by
    rw [Array.mapM_eq_mapM_toList,Sem.run_map,hres,h6]
    rfl
  have : (Go.results fn fc.tmps).run P w1 = .ok (valOf vs') w1 := by
    unfold Go.results
    rw [Sem.run_bind]
    refine (congrArg (fun r => Result.andThen r _) hm).trans ?_
    rw [valOf_eq]
    rfl
  exact this
theorem sim_enter {rec : RunCode} (hC : CodeSim T P ok rec) {B : Base} (hBz : B.sz = P.cellsOf) (hBc : B.code = ok) {φ : Phi} {s s' : St} {w : World} (hR : Rel φ B s.t.get w) (hf : Fresh φ s.next s'.next) (hG : GRel φ T.globs) {g : FuncId} {args args' : List Value} (ha : LRel φ args args') {v : Value}
    (h : enter T rec g args s = some (v,s')) (fc : Frame) (cs : List Frame) (hni : isCallItem fc.todo = false) : ∃ φ' w' v',Aft P B φ s w φ' s' w' ∧ VRel φ' v v' ∧ CallsTo P (callFunc g ⟨args'⟩) fc cs w v' w' := by
  unfold enter at h
  rcases hfn : T.fn g with _ | F
  · simp only [hfn] at h
    rcases hx : T.ext g with _ | gx
    · simp only [hx] at h
      rcases hy : T.lay g with _ | ty
      · simp [hy,fail] at h
      · simp only [hy] at h
        obtain ⟨fn,e1,e2,e3,e4,ps,e5⟩ := hF.lay g ty hy
        unfold makeNoZero at h
        split at h
        · rename_i n
          cases hd : T.und ty with
          | none => rw [hd] at h; cases h
          | some d =>
            rw [hd] at h
            cases d <;> (try simp only at h) <;> try (cases h; done)
            rename_i el
            by_cases hn : 0 ≤ n ∧ n ≤ 281474976710656
            · rw [if_pos hn] at h
              obtain ⟨N,s1,h1,h2⟩ := bnd_some h
              obtain ⟨rfl,rfl⟩ := newB_some h1
              obtain ⟨rfl,rfl⟩ := ret_some h2
              obtain ⟨x',r',rfl,hxv,hr⟩ := ha.cons_inv
              obtain rfl := hr.nil_inv
              cases hxv
              obtain ⟨n,rfl⟩ : ∃ m : Nat,n = m := ⟨n.toNat,by omega⟩
              obtain ⟨cs0,q1,q2,_⟩ := Lib.run_makeNoZero w ps ty el (hT.und _ _ hd) n (by omega)
              have hfr : φ s.next = none := hf s.next (Nat.le_refl _) (by simp)
              have hRd : Rel φ B s.t.get w.drew.drew := hR.heap rfl
              have hRn := hRd.newRow hfr [] cs0 el 0 (0,0) (by simp) (fun i v hv => by simp at hv) (fun _ => .inl rfl)
              refine ⟨_,w.drew.drew.alloc (.cells cs0 el),.slice (some ⟨w.heap.size,0,none⟩) n cs0.size,⟨by simp,.add _ hfr hR.newOk,by simp only; rw [get_upd]; exact hRn,?_⟩,?_,fc.finish (.slice (some ⟨w.heap.size,0,none⟩) n cs0.size),cs,w.drew.drew.alloc (.cells cs0 el),?_,Steps.refl _ _⟩
              · exact KeepsB.trans ((Keeps.heap (φ := φ) (H := s.t.get) (w := w) (w' := w.drew.drew) rfl rfl rfl rfl).weak hR) ((Keeps.alloc φ s.t.get w.drew.drew _).weak hRd)
              · exact VRel.sliceEnd (L := ⟨w.heap.size,0,cs0.size⟩) n 1 cs0.size (Phi.add_same _ _ _) (by simp) q2 (by decide)
              · have hrun : (callFunc g ⟨[.int .i64 n]⟩).run P w = .ok (.value (.slice (some ⟨w.heap.size,0,none⟩) n cs0.size)) (w.drew.drew.alloc (.cells cs0 el)) := by
                  have e2' : ¬ (fn.name = "runtime.NumGoroutine") := by simpa using e2
                  simp [callFunc,e1,e2',e3,e4,e5,q1]
                simp [stepG.apply,hrun]
            · rw [if_neg hn] at h; cases h
        · cases h
    · simp only [hx] at h
      obtain ⟨h1,rfl⟩ := lift_some h
      obtain ⟨fn,e,e1,e2,e3,e4,e5,e6⟩ := hF.ext g gx hx
      obtain ⟨v',h2,h3⟩ := e6 φ args args' v w h1 ha
      refine ⟨φ,w,v',.refl hR,h3,fc.finish v',cs,w,?_,Steps.refl _ _⟩
      have hrun : (callFunc g ⟨args'⟩).run P w = .ok (.value v') w := by
        have e2' : ¬ (fn.name = "runtime.NumGoroutine") := by simpa using e2
        simp [callFunc,e1,e2',e3,e4,e5,h2]
      simp [stepG.apply,hrun]
  · simp only [hfn] at h
    unfold trimMods at h
    split at h
    · rename_i v1 s1 hrun
      cases h
      obtain ⟨p,s2,h1,h2⟩ := bnd_some hrun
      obtain ⟨e,fr⟩ := p
      obtain ⟨fn,f1,f2,f3,f4,f5,f6⟩ := hF.fn g F hfn
      have hfr0 : FRel φ ⟨args ++ List.replicate (F.ntmps - args.length) undef,[]⟩ ⟨g,none⟩ (Frame.enter P g ⟨args'⟩ .normal) := by
        refine ⟨rfl,rfl,rfl,trivial,?_,.nil⟩
        simp only [Frame.enter,f1,Option.map_some,Option.getD_some,f2,Array.toList_append,Array.toList_replicate,List.size_toArray]
        rw [← ha.1]
        exact ha.append (.replicate _ .undef)
      have htodo : (Frame.enter P g ⟨args'⟩ .normal).todo = .code F.body :: [] := by
        simp [Frame.enter,f1,f3]
      have hlog := Logs.finishCall (T := T) F e fr s2 _ s1 h2
      have hf2 : Fresh φ s.next s2.next := hf.sub (Nat.le_refl _) hlog.1
      obtain ⟨φ',w1,fe,a1,a2,a3,a4⟩ := hC ⟨g,none⟩ F.body _ s e fr s2 h1 f6 φ B w (Frame.enter P g ⟨args'⟩ .normal) (fc :: cs) [] hBz hBc hR hf2 hG hfr0 htodo
      have hro : fe.roundOf = none := by
        have := a2.round
        cases hx : fe.roundOf with
        | none => rfl
        | some l => rw [hx] at this; exact this.elim
      have hfe : P.funcs[fe.fn]? = some fn := by rw [a2.fn]; exact f1
      obtain ⟨b1,w2,v',b2,b3,b4,b5⟩ := sim_finishCall (cs := cs) (c := fc) hT hF a1.rel a2 hro hfe f4 a4 h2
      refine ⟨φ',w2,v',⟨by simp only; have := a1.next; omega,?_,b2,a1.keeps.trans b3⟩,b4,Frame.enter P g ⟨args'⟩ .normal,fc :: cs,w,?_,a3.trans b5⟩
      · simp only; rw [b1]; exact a1.grows
      · have f5' : ¬ (fn.name = "runtime.NumGoroutine") := by simpa using f5
        have hrun : (callFunc g ⟨args'⟩).run P w = .ok (.enter g ⟨args'⟩) w := by
          simp [callFunc,f1,f5',f3]
        rcases hx : fc.todo with _ | ⟨it,r⟩
        · simp [stepG.apply,hrun,hx]
        · cases it <;> first
            | (rw [hx] at hni; simp [isCallItem] at hni; done)
            | simp [stepG.apply,hrun,hx]
    · cases h
end
end Go.Ev

/-
  EV, PART P: the rounds of a loop over a function.
-/
namespace Go.Ev
open Go Go.RowKit
def putLoop (w : World) (l : Nat) (r : Loop) : World := { w with heap := w.heap.setIfInBounds l (.loop r) }
section
variable {P : Program} {fc : Frame} {cs : List Frame} {w : World} {k : List Item}
theorem run_getLoop {l : Nat} {r : Loop} (h : w.heap[l]? = some (.loop r)) : (Instr.getLoop l).run P w = .ok r w := by
  simp [Instr.getLoop,getObj,Sem.run,h]
theorem run_setLoop {l : Nat} {r r' : Loop} (h : w.heap[l]? = some (.loop r)) : (setObj l (.loop r')).run P w = .ok () (putLoop w l r') := by
  simp [setObj,Sem.run,h,putLoop]
theorem st_beginRound {l : Nat} {r : Loop} (hm : fc.mode = .run) (hr : fc.roundOf = some l) (ht : fc.todo = .beginRound :: k) (hh : w.heap[l]? = some (.loop r)) (hs : r.state = .ready) :
    step P (lone fc cs w) = .next (lone { fc with todo := k } cs (putLoop w l { r with state := .busy })) :=
  step_lone_go (by
    have hb : (Instr.beginRound l).run P w = .ok () (putLoop w l { r with state := .busy }) := by
      simp only [Instr.beginRound,Sem.run_bind,run_getLoop hh,Result.andThen_ok,run_setLoop hh,hs,Sem.run_pure]
    cases fc; simp only at hm ht hr; subst hm ht hr
    simp [stepG,stepG.exec,stepG.apply,hb,Frame.finish])
theorem st_leave {c : Frame} {l : Nat} {r : Loop} {jump : Option Code} (hm : fc.mode = .run) (hr : fc.roundOf = some l) (hk : fc.kind = .normal) (hh : w.heap[l]? = some (.loop r))
    (ht : (jump = none ∧ fc.todo = []) ∨ (jump = some .ret ∧ ∃ K,fc.todo = .code .ret :: K) ∨ (∃ id K,jump = some (.exit id) ∧ fc.todo = .code (.exit id) :: K ∧ exitTo id K = none)) :
    step P (lone fc (c :: cs) w) = .next (lone (c.finish (.bool jump.isNone)) cs (putLoop w l { r with state := if jump.isNone then .ready else .done,pending := jump })) :=
  step_lone_go (by
    have he : (Instr.endRound l jump).run P w = .ok (.bool jump.isNone) (putLoop w l { r with state := if jump.isNone then .ready else .done,pending := jump }) := by
      simp only [Instr.endRound,Sem.run_bind,run_getLoop hh,Result.andThen_ok,run_setLoop hh,Sem.run_pure]
    cases fc; simp only at hm ht hr hk; subst hm hr hk
    rcases ht with ⟨rfl,rfl⟩ | ⟨rfl,K,rfl⟩ | ⟨id,K,rfl,rfl,hx⟩
    · simp only [stepG,stepG.exec,Sem.runT_eq,he,GStep.bare_after]
      simp [doReturn]
    · simp only [stepG,stepG.exec,Sem.runT_eq,he,GStep.bare_after]
      simp [doReturn]
    · simp only [stepG,stepG.exec,Sem.runT_eq,hx,Option.elim,he,GStep.bare_after]
      simp [doReturn])
theorem st_endRange {l : Nat} {r : Loop} (hm : fc.mode = .run) (ht : fc.todo = .endRangeFunc l :: k) (hh : w.heap[l]? = some (.loop r)) (hs : r.state ≠ .busy) :
    step P (lone fc cs w) = .next (lone { fc with todo := (r.pending.map Item.code).toList ++ k } cs (putLoop w l { r with state := .exhausted })) :=
  step_lone_go (by
    have he : (Instr.endLoop l).run P w = .ok r.pending (putLoop w l { r with state := .exhausted }) := by
      have : (r.state == .busy) = false := by simpa using hs
      simp only [Instr.endLoop,Sem.run_bind,run_getLoop hh,Result.andThen_ok,this,Bool.false_eq_true,if_false,Sem.run_pure,run_setLoop hh]
    cases fc; simp only at hm ht; subst hm ht
    simp [stepG,stepG.exec,Sem.runT_eq,he,GStep.bare_after])
end
theorem setMany_rel {φ : Phi} : ∀ (ts : List Tmp) (tmps tmps' vs vs' : List Value),LRel φ tmps tmps' → LRel φ vs vs' → LRel φ (setMany tmps ts vs) (setMany tmps' ts vs')
  | [],tmps,tmps',vs,vs',h,_ => by cases vs <;> cases vs' <;> exact h
  | t :: ts,tmps,tmps',[],vs',h,hv => by obtain rfl := hv.nil_inv; exact h
  | t :: ts,tmps,tmps',v :: vs,vs',h,hv => by
    obtain ⟨v',r',rfl,h1,h2⟩ := hv.cons_inv
    exact setMany_rel ts _ _ vs r' (h.set t h1) h2
theorem setMany_fold : ∀ (ts : List Tmp) (vs : List Value) (a : Array Value),((ts.zip vs).foldl (fun (tmps : Array Value) (x : Tmp × Value) => tmps.setIfInBounds x.1 x.2) a).toList = setMany a.toList ts vs
  | [],vs,a => by cases vs <;> rfl
  | t :: ts,[],a => rfl
  | t :: ts,v :: vs,a => by
    simp only [List.zip_cons_cons,List.foldl_cons,setMany]
    rw [setMany_fold ts vs]
    simp
theorem loop_of {φ : Phi} {B : Base} {H : Nat → Option Blk} {w : World} (hR : Rel φ B H w) {l : Nat} {r : Loop} (hl : H l = some (.obj (.loop r))) :
    ∃ L r',φ l = some L ∧ w.heap[L.blk]? = some (.loop r') ∧ L.off = 0 ∧ ¬ B.keep L.blk ∧ ORel B.code φ (.loop r) (.loop r') := by
  obtain ⟨L,hL,o',k1,k2,k3,k4⟩ := hR.blk l _ hl
  cases o' <;> simp only [ORel] at k2 <;> try (exact k2.elim)
  rename_i r'
  exact ⟨L,r',hL,k1,k4,k3,k2⟩
theorem getLoop_some {l : Nat} {s s' : St} {r : Loop} (h : getLoop l s = some (r,s')) : s.t.get l = some (.obj (.loop r)) ∧ s' = s := by
  unfold getLoop at h
  split at h
  · rename_i r' hl; cases h; exact ⟨hl,rfl⟩
  · cases h
theorem putLoop_rel {φ : Phi} {B : Base} {H : Nat → Option Blk} {w : World} (hR : Rel φ B H w) {l : Nat} {r r2 r2' : Loop} {L : Loc} (hl : H l = some (.obj (.loop r))) (hL : φ l = some L) (hk : ¬ B.keep L.blk) (ho : L.off = 0)
    (h2 : ORel B.code φ (.loop r2) (.loop r2')) : Rel φ B (upd H l (some (.obj (.loop r2)))) (putLoop w L.blk r2') ∧ KeepsB B w (putLoop w L.blk r2') := by
  have hb : L.blk < w.heap.size := hR.inw _ _ hL
  refine ⟨hR.set hl hL trivial _ (by simp [putLoop]) (fun k hk => by simp [putLoop,Ne.symm hk]) ⟨.loop r2',by simp [putLoop,hb],h2,hk,ho⟩,?_⟩
  exact (Keeps.set (φ := φ) (w := w) (w' := putLoop w L.blk r2') hl hL trivial rfl rfl rfl (by simp [putLoop]) (fun k hk => by simp [putLoop,Ne.symm hk])).weak hR
section
variable {T : Tab} {P : Program} (hT : T.Ok P) {ok : Code → Prop} (hF : T.Fns P ok)
include hT hF
theorem sim_round {rec : RunCode} (hC : CodeSim T P ok rec) (hLg : ∀ cx c fr,Logs (rec cx c fr)) {B : Base} (hBz : B.sz = P.cellsOf) (hBc : B.code = ok) {φ : Phi} {s s' : St} {w : World} (hR : Rel φ B s.t.get w) (hf : Fresh φ s.next s'.next) (hG : GRel φ T.globs) {l : Nat} {L : Loc} (hL : φ l = some L)
    {args args' : List Value} (ha : LRel φ args args') {v : Value}
    (h : round rec l args s = some (v,s')) (fc : Frame) (cs : List Frame) (hni : isCallItem fc.todo = false) : ∃ φ' w' v',Aft P B φ s w φ' s' w' ∧ VRel φ' v v' ∧ CallsTo P (Instr.yield L.blk ⟨args'⟩) fc cs w v' w' := by
  have _ := hT
  have _ := hF
  unfold round at h
  obtain ⟨r,s1,h1,h2⟩ := bnd_some h
  obtain ⟨hl,rfl⟩ := getLoop_some h1
  obtain ⟨L2,r',hL2,hw,hoff,hnk,hO⟩ := loop_of hR hl
  rw [hL] at hL2; cases hL2
  obtain ⟨o1,o2,o3,o4,o5,o6,o7,o8,o9,o10⟩ := hO
  split at h2
  · rename_i hlen
    obtain ⟨⟨e,fr⟩,s2,h3,h4⟩ := bnd_some h2
    simp only at h4
    cases e <;> simp only [roundBody] at h4 <;> try (cases h4; done)
    obtain ⟨ra,s3,h5,h6⟩ := bnd_some h4
    obtain ⟨hl2,rfl⟩ := getLoop_some h5
    split at h6
    · rename_i hst
      obtain ⟨_,s4,h7,h8⟩ := bnd_some h6
      obtain ⟨_,rfl⟩ := setB_some h7
      obtain ⟨⟨e2,fr2⟩,s5,h9,h10⟩ := bnd_some h8
      simp only [endRound] at h10
      split at h10
      · rename_i hdf
        obtain ⟨rb,s6,h11,h12⟩ := bnd_some h10
        obtain ⟨hl3,rfl⟩ := getLoop_some h11
        obtain ⟨_,s7,h13,h14⟩ := bnd_some h12
        obtain ⟨_,rfl⟩ := setB_some h13
        obtain ⟨rfl,rfl⟩ := ret_some h14
        -- how names grow
        have g1 := (hLg _ _ _ _ _ _ h3).1
        have g2 := (hLg _ _ _ _ _ _ h9).1
        simp only at g1 g2 hf
        -- the assignment
        let tm : Array Value := (r'.params.zip ⟨args'⟩).foldl (fun tmps (x : Tmp × Value) => tmps.setIfInBounds x.1 x.2) r'.tmps
        have htm : tm.toList = setMany r'.tmps.toList r'.params.toList args' := by
          show ((r'.params.zip ⟨args'⟩).foldl (fun (tmps : Array Value) (x : Tmp × Value) => tmps.setIfInBounds x.1 x.2) r'.tmps).toList = _
          rw [← Array.foldl_toList,Array.toList_zip,setMany_fold]
        have hfr0 : FRel φ ⟨setMany r.tmps.toList r.params.toList args,[]⟩ ⟨r.fn,some l⟩ (Frame.round L.blk r'.fn tm r'.assign r'.body .normal) :=
          ⟨by simp [Frame.round,o3],rfl,rfl,⟨L,hL,rfl⟩,by
            simp only [Frame.round]
            rw [htm,o5]
            exact setMany_rel _ _ _ _ _ o4 ha,.nil⟩
        obtain ⟨φ1,w1,f1,a1,a2,a3,a4⟩ := hC _ r.assign _ _ _ fr _ h3 (by rw [← hBc]; exact o9) φ B w _ (fc :: cs) [.beginRound,.code r.body] hBz hBc hR (hf.sub (Nat.le_refl _) g2) hG hfr0 (by simp [Frame.round,o6,o7])
        -- the round begins
        obtain ⟨L1,ra',hL1,hw1,hoff1,hnk1,hO1⟩ := loop_of a1.rel hl2
        have hL1' := a1.grows.1 _ _ hL
        rw [hL1'] at hL1; cases hL1
        have hro1 : f1.roundOf = some L.blk := by
          have := a2.round
          simp only at this
          cases hx : f1.roundOf with
          | none => rw [hx] at this; exact this.elim
          | some y =>
            rw [hx] at this
            obtain ⟨L3,q1,q2⟩ := this
            rw [hL1'] at q1; cases q1; rw [q2]
        have hO1' := hO1
        obtain ⟨p1,p2,p3,p4,p5,p6,p7,p8,p9,p10⟩ := hO1
        have hstep1 := st_beginRound (P := P) (cs := fc :: cs) a2.mode hro1 a4 hw1 (by rw [← p1]; exact hst)
        obtain ⟨b1,b2⟩ := putLoop_rel (r2 := { ra with state := .busy }) (r2' := { ra' with state := .busy }) a1.rel hl2 hL1' hnk1 hoff1 ⟨rfl,p2,p3,p4,p5,p6,p7,p8,p9,p10⟩
        -- the body
        have hfr2 : FRel φ1 fr ⟨r.fn,some l⟩ { f1 with todo := [.code r.body] } := a2.todo _
        obtain ⟨φ2,w2,f2,c1,c2,c3,c4⟩ := hC _ r.body fr _ e2 fr2 _ h9 (by rw [← hBc]; exact o10) φ1 B (putLoop w1 L.blk { ra' with state := .busy }) _ (fc :: cs) [] hBz hBc (by simp only; rw [get_upd]; exact b1)
          (by simp only; exact (a1.fresh (n := s6.next) hf).sub (Nat.le_refl _) (Nat.le_refl _)) (hG.mono a1.grows.1) hfr2 rfl
        -- the round ends
        obtain ⟨L3,rb',hL3,hw3,hoff3,hnk3,hO3⟩ := loop_of c1.rel hl3
        have hL3' := c1.grows.1 _ _ hL1'
        rw [hL3'] at hL3; cases hL3
        have hro2 : f2.roundOf = some L.blk := by
          have := c2.round
          simp only at this
          cases hx : f2.roundOf with
          | none => rw [hx] at this; exact this.elim
          | some y =>
            rw [hx] at this
            obtain ⟨L3,q1,q2⟩ := this
            rw [hL3'] at q1; cases q1; rw [q2]
        obtain ⟨q1,q2,q3,q4,q5,q6,q7,q8,q9,q10⟩ := hO3
        have hstep2 := st_leave (P := P) (c := fc) (cs := cs) (jump := jumpOf e2) c2.mode hro2 c2.kind hw3 (by
          cases e2 with
          | normal => exact .inl ⟨rfl,c4⟩
          | ret => obtain ⟨K',hk⟩ := c4; exact .inr (.inl ⟨rfl,K',hk⟩)
          | exit id => obtain ⟨K',hk,hx⟩ := c4; exact .inr (.inr ⟨id,K',rfl,hk,by rw [hx]; rfl⟩))
        obtain ⟨d1,d2⟩ := putLoop_rel (r2 := { rb with state := if (jumpOf e2).isNone then .ready else .done,pending := jumpOf e2 }) (r2' := { rb' with state := if (jumpOf e2).isNone then .ready else .done,pending := jumpOf e2 }) c1.rel hl3 hL3' hnk3 hoff3 ⟨rfl,rfl,q3,q4,q5,q6,q7,q8,q9,q10⟩
        have n1 := a1.next
        have n2 := c1.next
        simp only at n1 n2
        refine ⟨φ2,_,.bool (jumpOf e2).isNone,⟨by simp only; omega,?_,by simp only; rw [get_upd]; exact d1,a1.keeps.trans (b2.trans (c1.keeps.trans d2))⟩,.bool _,Frame.round L.blk r'.fn tm r'.assign r'.body .normal,fc :: cs,w,?_,a3.trans (Steps.head hstep1 (c3.trans (Steps.one hstep2)))⟩
        · simp only
          exact a1.grows.trans c1.grows n1 n2
        · have hargs : ¬ ((⟨args'⟩ : Array Value).size ≠ r'.params.size) := by
            simp only [List.size_toArray,← ha.1,hlen,o5,Array.length_toList,ne_eq,not_true_eq_false,not_false_eq_true]
          have hrun : (Instr.yield L.blk ⟨args'⟩).run P w = .ok (.round L.blk r'.fn tm r'.assign r'.body) w := by
            simp only [Instr.yield,Sem.run_bind,run_getLoop hw,Result.andThen_ok,hargs,if_false,Sem.run_pure]
            rfl
          rcases hx : fc.todo with _ | ⟨it,rr⟩
          · simp [stepG.apply,hrun,hx]
          · cases it <;> first
              | (rw [hx] at hni; simp [isCallItem] at hni; done)
              | simp [stepG.apply,hrun,hx]
      · cases h10
    · cases h6
  · cases h2
end
end Go.Ev

/-
  EV, PART Q: operations in a region; code. What is left open: a region that draws its order ('RegionSim').
-/
namespace Go.Ev
open Go Go.RowKit
theorem CallsTo.congr {P : Program} {m m' : Sem Next} {fc : Frame} {cs : List Frame} {w w' : World} {v : Value} (h : CallsTo P m fc cs w v w') (e : m' = m) : CallsTo P m' fc cs w v w' := e ▸ h
section
variable {T : Tab} {P : Program} (hT : T.Ok P) {ok : Code → Prop} (hF : T.Fns P ok)
include hT hF
theorem sim_callValue {rec : RunCode} (hC : CodeSim T P ok rec) (hLg : ∀ cx c fr,Logs (rec cx c fr)) {B : Base} (hBz : B.sz = P.cellsOf) (hBc : B.code = ok) {φ : Phi} {s s' : St} {w : World} (hR : Rel φ B s.t.get w) (hf : Fresh φ s.next s'.next) (hG : GRel φ T.globs)
    {f f' : Value} (hv : VRel φ f f') {args args' : List Value} (ha : LRel φ args args') {v : Value} (h : callValue T rec f args s = some (v,s')) (fc : Frame) (cs : List Frame) (hni : isCallItem fc.todo = false) :
    ∃ φ' w' v',Aft P B φ s w φ' s' w' ∧ VRel φ' v v' ∧ CallsTo P (do let d ← Deferred.ofValue f' ⟨args'⟩; invoke d.target d.args) fc cs w v' w' := by
  unfold callValue at h
  cases hv <;> (try simp only at h) <;> try (cases h; done)
  · rename_i g a a' c c' h1 h2 h3 h4
    obtain ⟨φ',w',v',q1,q2,q3⟩ := sim_enter hT hF hC hBz hBc hR hf hG (args' := a'.toList ++ args' ++ c'.toList) ((LRel.append ⟨h1,h2⟩ ha).append ⟨h3,h4⟩) h fc cs hni
    refine ⟨φ',w',v',q1,q2,q3.congr ?_⟩
    have e : (⟨a'.toList ++ args' ++ c'.toList⟩ : Array Value) = a' ++ ⟨args'⟩ ++ c' := by apply Array.ext'; simp
    rw [e]
    rfl
  · rename_i N L hL
    obtain ⟨φ',w',v',q1,q2,q3⟩ := sim_round hT hF hC hLg hBz hBc hR hf hG hL (args' := args') (by simpa using ha) h fc cs hni
    refine ⟨φ',w',v',q1,q2,q3.congr ?_⟩
    show (do let d ← Deferred.ofValue (.func (.yield L.blk) #[] #[]) ⟨args'⟩; invoke d.target d.args) = _
    have e : (#[] ++ ⟨args'⟩ : Array Value) = ⟨args'⟩ := by simp
    show invoke (.fn (.yield L.blk) #[]) (#[] ++ ⟨args'⟩) = _
    rw [e]
    rfl
theorem OpCame.aft {φ : Phi} {B : Base} {s s' : St} {w : World} {v : Value} {r : Result Next} (hR : Rel φ B s.t.get w) (h : OpCame φ B s w v s' r) : ∃ φ' w' nx,r = .ok nx w' ∧ Aft P B φ s w φ' s' w' ∧ NRel φ' v nx := by
  have _ := hT
  have _ := hF
  obtain ⟨φ',w',nx,h1,h2,h3,h4,h5,h6⟩ := h
  exact ⟨φ',w',nx,h1,⟨h2,h3,h4,h6.weak hR⟩,h5⟩
theorem sim_op {rec : RunCode} (hC : CodeSim T P ok rec) (hLg : ∀ cx c fr,Logs (rec cx c fr)) {B : Base} (hBz : B.sz = P.cellsOf) (hBc : B.code = ok) {φ : Phi} {s s' : St} {w : World} (hR : Rel φ B s.t.get w) (hf : Fresh φ s.next s'.next) (hG : GRel φ T.globs)
    {fr : Fr} {o : Oper} {v : Value} (h : evOp T rec fr o s = some (v,s')) {fc : Frame} (cs : List Frame) (hm : fc.mode = .run) {ops : Array Oper} {i : Nat} {rest : List Nat} {K : List Item} (ht : fc.todo = .inRegion ops (i :: rest) :: K) (ho : ops[i]? = some o)
    (hw : Region.wanted o (yielded ops fc.tmps) = true) (hv : ∀ x ∈ o.op.operands.toList,VRel φ (fr.eval x) (fc.eval x)) (hnd : ∀ c,o.op ≠ .defer c) :
    ∃ φ' w' v',Aft P B φ s w φ' s' w' ∧ VRel φ' v v' ∧ Steps P (lone fc cs w) (lone (fc.finish v') cs w') := by
  have hni : isCallItem fc.todo = false := by rw [ht]; rfl
  have plain : evPlain T fr.eval o.op s = some (v,s') → ∃ φ' w' v',Aft P B φ s w φ' s' w' ∧ VRel φ' v v' ∧ Steps P (lone fc cs w) (lone (fc.finish v') cs w') := fun hp => by
    obtain ⟨φ',w',nx,h1,h2,h3⟩ := OpCame.aft hT hF hR (sim_plain hT hBz hR hf hv hp)
    rcases h3 with ⟨v',rfl,h4⟩ | ⟨rfl,rfl⟩
    · exact ⟨φ',w',v',h2,h4,Steps.one (st_value hm ht ho hw hnd h1)⟩
    · exact ⟨φ',w',undef,h2,.undef,Steps.one (st_skipped hm ht ho hw hnd h1)⟩
  by_cases hcall : ∃ f args ts,o.op = .call ⟨.value f,args,ts⟩
  · obtain ⟨f,args,ts,hop⟩ := hcall
    have h : callValue T rec (fr.eval f) (args.toList.map fr.eval) s = some (v,s') := by
      unfold evOp at h; rw [hop] at h; exact h
    have hfv : VRel φ (fr.eval f) (fc.eval f) := hv f (by rw [hop]; simp [Op.operands,Call.operands])
    have hav : LRel φ (args.toList.map fr.eval) (args.toList.map fc.eval) := LRel.map _ fun y hy => hv y (by rw [hop]; simp [Op.operands,Call.operands]; exact .inr (by simpa using hy))
    obtain ⟨φ',w',v',q1,q2,fr1,cs1,w1,q3,q4⟩ := sim_callValue hT hF hC hLg hBz hBc hR hf hG hfv hav h fc cs hni
    refine ⟨φ',w',v',q1,q2,Steps.head (step_lone_go ?_) q4⟩
    rw [st_op hm ht ho hw hnd]
    have e : execOp fc.eval o = (do let d ← Deferred.ofValue (fc.eval f) ⟨args.toList.map fc.eval⟩; invoke d.target d.args) := by
      have ea : args.map fc.eval = ⟨args.toList.map fc.eval⟩ := by apply Array.ext'; simp
      unfold execOp
      rw [hop]
      show (do let d ← resolve fc.eval ⟨.value f,args,ts⟩ o.type; invoke d.target d.args) = _
      simp only [resolve,ea]
    rw [e]; exact q3
  · refine plain ?_
    have : evOp T rec fr o = evPlain T fr.eval o.op := by
      unfold evOp
      split
      · rename_i f args ts hop
        exact absurd ⟨f,args,ts,hop⟩ hcall
      · rfl
    rw [this] at h; exact h
omit hT hF in
theorem yielded_rel {φ : Phi} {tmps : List Value} {tmps' : Array Value} (h : LRel φ tmps tmps'.toList) (ops : Array Oper) : yieldedL ops tmps = yielded ops tmps' := by
  funext j
  unfold yieldedL yielded
  cases (ops[j]?).bind (·.dst) with
  | none => rfl
  | some d =>
    simp only [Option.bind_some]
    cases hv : tmps[d]? with
    | none =>
      have : tmps'[d]? = none := by
        rw [← Array.getElem?_toList]
        have : tmps.length ≤ d := by simpa using hv
        exact List.getElem?_eq_none (h.1 ▸ this)
      rw [this]
    | some v =>
      obtain ⟨v',h1,h2⟩ := h.get hv
      rw [Array.getElem?_toList] at h1
      rw [h1]
      cases h2 <;> rfl
omit hT hF in
theorem FRel.finish {φ : Phi} {fr : Fr} {cx : Ctx} {fc : Frame} (h : FRel φ fr cx fc) {ops : Array Oper} {i : Nat} {rest : List Nat} {K : List Item} {o : Oper} (ht : fc.todo = .inRegion ops (i :: rest) :: K) (ho : ops[i]? = some o) {v v' : Value} (hv : VRel φ v v') :
    FRel φ (fr.put o.dst v) cx (fc.finish v') ∧ (fc.finish v').todo = .inRegion ops rest :: K := by
  have e : fc.finish v' = { fc with tmps := match o.dst with | some d => fc.tmps.setIfInBounds d v' | none => fc.tmps,todo := .inRegion ops rest :: K } := by
    cases fc; simp only at ht; subst ht
    simp only [Frame.finish,ho,Option.bind_some]
    cases o.dst <;> rfl
  rw [e]
  refine ⟨⟨h.fn,h.mode,h.kind,h.round,?_,?_⟩,rfl⟩
  · cases hd : o.dst with
    | none => simp only [Fr.put]; exact h.tmps
    | some d =>
      simp only [Fr.put,Array.toList_setIfInBounds]
      exact h.tmps.set d hv
  · cases hd : o.dst <;> exact h.defers
def notDefer : Op → Bool
  | .defer _ => false
  | _ => true
def opsOk (G : Nat) (ops : Array Oper) : Bool := ops.toList.all fun o => opOk G o.op && notDefer o.op
omit hT hF in
theorem opsOk_at {G : Nat} {ops : Array Oper} (h : opsOk G ops = true) {i : Nat} {o : Oper} (ho : ops[i]? = some o) : opOk G o.op = true ∧ ∀ c,o.op ≠ .defer c := by
  have hm : o ∈ ops.toList := by rw [← Array.getElem?_toList] at ho; exact List.mem_of_getElem? ho
  have := List.all_eq_true.1 h o hm
  simp only [Bool.and_eq_true] at this
  exact ⟨this.1,fun c hc => by rw [hc] at this; simp [notDefer] at this⟩
omit hT hF in
theorem Logs.enter {rec : RunCode} (hLg : ∀ cx c fr,Logs (rec cx c fr)) (g : FuncId) (args : List Value) : Logs (Ev.enter T rec g args) := by
  unfold Ev.enter
  split
  · split
    · exact .lift _
    · split
      · exact .makeNoZero _ _
      · exact .fail
  · exact .trim (.bnd (hLg _ _ _) fun _ => .finishCall _ _ _)
omit hT hF in
theorem Logs.endRound (l : Nat) (e : Ex) (fr : Fr) : Logs (Ev.endRound l e fr) := by
  unfold Ev.endRound
  exact .ite (.bnd (.getLoop _) fun _ => .bnd (.setB _ _) fun _ => .ret _) .fail
omit hT hF in
theorem Logs.round {rec : RunCode} (hLg : ∀ cx c fr,Logs (rec cx c fr)) (l : Nat) (args : List Value) : Logs (Ev.round rec l args) := by
  unfold Ev.round
  refine .bnd (.getLoop _) fun r => .ite (.bnd (hLg _ _ _) fun p => ?_) .fail
  unfold Ev.roundBody
  split
  · exact .bnd (.getLoop _) fun _ => .ite (.bnd (.setB _ _) fun _ => .bnd (hLg _ _ _) fun _ => .endRound _ _ _) .fail
  · exact .fail
omit hT hF in
theorem Logs.callValue {rec : RunCode} (hLg : ∀ cx c fr,Logs (rec cx c fr)) (f : Value) (args : List Value) : Logs (Ev.callValue T rec f args) := by
  unfold Ev.callValue
  split
  · exact .enter hLg _ _
  · exact .round hLg _ _
  · exact .fail
omit hT hF in
theorem Logs.evOp {rec : RunCode} (hLg : ∀ cx c fr,Logs (rec cx c fr)) (fr : Fr) (o : Oper) : Logs (Ev.evOp T rec fr o) := by
  unfold Ev.evOp
  split
  · exact .callValue hLg _ _
  · exact .plain _ _
omit hT hF in
theorem Logs.evOps {rec : RunCode} (hLg : ∀ cx c fr,Logs (rec cx c fr)) (ops : Array Oper) : ∀ (l : List Oper) (fr : Fr),Logs (Ev.evOps T rec ops l fr)
  | [],fr => .ret _
  | o :: os,fr => by
    unfold Ev.evOps
    split
    · exact .bnd (.evOp hLg _ _) fun _ => Logs.evOps hLg ops os _
    · exact Logs.evOps hLg ops os _
theorem sim_evOps {rec : RunCode} (hC : CodeSim T P ok rec) (hLg : ∀ cx c fr,Logs (rec cx c fr)) {B : Base} (hBz : B.sz = P.cellsOf) (hBc : B.code = ok) {ops : Array Oper} (hops : opsOk T.globs ops = true) (cs : List Frame) (cx : Ctx) (K : List Item) :
    ∀ (m i : Nat) (fr fr' : Fr) (s s' : St) (φ : Phi) (w : World) (fc : Frame),i + m = ops.size → evOps T rec ops (ops.toList.drop i) fr s = some (fr',s') → Rel φ B s.t.get w → Fresh φ s.next s'.next → GRel φ T.globs → FRel φ fr cx fc →
      fc.todo = .inRegion ops (List.range' i m) :: K → ∃ φ' w' fc',Aft P B φ s w φ' s' w' ∧ FRel φ' fr' cx fc' ∧ Steps P (lone fc cs w) (lone fc' cs w') ∧ fc'.todo = K
  | 0,i,fr,fr',s,s',φ,w,fc,hi,h,hR,hf,hG,hfr,ht => by
    have : ops.toList.drop i = [] := List.drop_eq_nil_of_le (by simp; omega)
    rw [this] at h
    obtain ⟨rfl,rfl⟩ := ret_some h
    exact ⟨φ,w,{ fc with todo := K },.refl hR,hfr.todo K,Steps.one (st_regionEnd hfr.mode ht),rfl⟩
  | m + 1,i,fr,fr',s,s',φ,w,fc,hi,h,hR,hf,hG,hfr,ht => by
    have hlt : i < ops.toList.length := by simp; omega
    have ho : ops[i]? = some (ops.toList[i]) := by rw [← Array.getElem?_toList]; exact List.getElem?_eq_getElem hlt
    rw [List.drop_eq_getElem_cons hlt] at h
    generalize ops.toList[i] = o at h ho
    rw [List.range'_succ] at ht
    unfold evOps at h
    have hy := yielded_rel hfr.tmps ops
    obtain ⟨hopk,hnd⟩ := opsOk_at hops ho
    split at h
    · rename_i hw
      obtain ⟨v,s1,h1,h2⟩ := bnd_some h
      have g2 := (Logs.evOps hLg ops _ _ _ _ _ h2).1
      rw [hy] at hw
      obtain ⟨φ1,w1,v',q1,q2,q3⟩ := sim_op hT hF hC hLg hBz hBc hR (hf.sub (Nat.le_refl _) g2) hG h1 cs hfr.mode ht ho hw (fun x hx => eval_rel (ds := fr.defers) hfr.tmps hG (List.all_eq_true.1 hopk x hx)) hnd
      obtain ⟨r1,r2⟩ := (hfr.mono q1.grows.1).finish ht ho q2
      obtain ⟨φ2,w2,fc2,t1,t2,t3,t4⟩ := sim_evOps hC hLg hBz hBc hops cs cx K m (i + 1) _ fr' s1 s' φ1 w1 (fc.finish v') (by omega) h2 q1.rel (q1.fresh hf) (hG.mono q1.grows.1) r1 r2
      exact ⟨φ2,w2,fc2,q1.trans t1,t2,q3.trans t3,t4⟩
    · rename_i hw
      rw [hy] at hw
      obtain ⟨r1,r2⟩ := hfr.finish ht ho (φ := φ) .undef
      obtain ⟨φ2,w2,fc2,t1,t2,t3,t4⟩ := sim_evOps hC hLg hBz hBc hops cs cx K m (i + 1) _ fr' s s' φ w (fc.finish undef) (by omega) h hR hf hG r1 r2
      exact ⟨φ2,w2,fc2,t1,t2,Steps.head (st_opSkip hfr.mode ht (by rw [ho]; simpa using hw)) t3,t4⟩
end
end Go.Ev

/-
  EV, PART R: what a part of the heap has become, put back into the whole; places that some of many write.
-/
namespace Go.Ev
open Go Go.RowKit
def lay {β : Type} (b0 : β) (τ : Nat → Bool) (val : Nat → β) : Nat → β
  | 0 => b0
  | n + 1 => if τ n = true then val n else lay b0 τ val n
theorem lay_congr {β : Type} {b0 : β} {τ τ' : Nat → Bool} {val : Nat → β} : ∀ {n : Nat},(∀ i,i < n → τ i = τ' i) → lay b0 τ val n = lay b0 τ' val n
  | 0,_ => rfl
  | n + 1,h => by
    simp only [lay]
    rw [h n (Nat.lt_succ_self _),lay_congr fun i hi => h i (Nat.lt_succ_of_lt hi)]
theorem lay_skip {β : Type} {b0 : β} {τ : Nat → Bool} {val : Nat → β} {j : Nat} : ∀ {n : Nat},j ≤ n → (∀ i,j ≤ i → i < n → τ i = false) → lay b0 τ val n = lay b0 τ val j
  | 0, hj, _ => by have : j = 0 := by omega
                   subst this; rfl
  | n + 1,hj,h => by
    by_cases e : j = n + 1
    · subst e; rfl
    · have := h n (by omega) (Nat.lt_succ_self _)
      simp only [lay,this,Bool.false_eq_true,if_false]
      exact lay_skip (by omega) fun i h1 h2 => h i h1 (by omega)
theorem lay_view {β : Type} {b0 : β} {τ S : Nat → Bool} {val : Nat → β} {n j : Nat} (hj : j ≤ n) (h : ∀ i,i < n → τ i = true → (S i = true ↔ i < j)) : lay b0 (fun i => S i && τ i) val n = lay b0 τ val j := by
  rw [lay_skip hj fun i h1 h2 => ?_]
  · refine lay_congr fun i hi => ?_
    cases ht : τ i with
    | false => simp
    | true => rw [(h i (by omega) ht).2 hi]; rfl
  · cases ht : τ i with
    | false => simp
    | true =>
      cases hs : S i with
      | false => rfl
      | true => have := (h i h2 ht).1 hs; omega
theorem lay_put {β : Type} {b0 : β} {τ S : Nat → Bool} {val : Nat → β} {n j : Nat} (hj : j < n) (hτ : τ j = true) (h : ∀ i,j < i → i < n → S i = true → τ i = false) : lay b0 (fun i => (S i || i == j) && τ i) val n = val j := by
  rw [lay_skip (j := j + 1) (by omega) fun i h1 h2 => ?_]
  · simp [lay,hτ]
  · have : (i == j) = false := by simp; omega
    show ((S i || i == j) && τ i) = false
    rw [this,Bool.or_false]
    cases hs : S i with
    | false => rfl
    | true => simp [h i (by omega) h2 hs]
theorem lay_other {β : Type} {b0 : β} {τ S : Nat → Bool} {val : Nat → β} {n j : Nat} (hτ : τ j = false) : lay b0 (fun i => (S i || i == j) && τ i) val n = lay b0 (fun i => S i && τ i) val n := by
  refine lay_congr fun i _ => ?_
  by_cases e : i = j
  · subst e; simp [hτ]
  · have e' : (i == j) = false := by simpa using e
    show ((S i || i == j) && τ i) = (S i && τ i)
    rw [e',Bool.or_false]
def Base.more (B : Base) (K : Nat → Prop) : Base := { B with keep := fun k => B.keep k ∨ K k }
def Aside (φ : Phi) (H V : Nat → Option Blk) (k : Nat) : Prop := ∃ N L,H N ≠ none ∧ V N = none ∧ φ N = some L ∧ L.blk = k
theorem Rel.narrow {φ : Phi} {B : Base} {H V : Nat → Option Blk} {w : World} (h : Rel φ B H w) (hV : ∀ N b,V N = some b → H N = some b) : Rel φ (B.more (Aside φ H V)) V w := by
  have key : ∀ M b L,V M = some b → φ M = some L → wr b → ¬ Aside φ H V L.blk := by
    rintro M b L hM hL hw ⟨N,L',h1,h2,h3,h4⟩
    cases hN : H N with
    | none => exact h1 hN
    | some b' =>
      refine h.apart M N b b' L L' (fun e => ?_) (hV _ _ hM) hN hL h3 hw h4.symm
      subst e; rw [h2] at hM; cases hM
  refine ⟨fun k hk => ?_,fun N b hN => ?_,(h.sub hV).apart,h.inw⟩
  · rcases hk with hk | ⟨N,L,_,_,h3,rfl⟩
    · exact h.base k hk
    · exact h.inw N L h3
  · obtain ⟨L,hL,r⟩ := h.blk N b (hV _ _ hN)
    refine ⟨L,hL,?_⟩
    have hk := key N b L hN hL
    cases b with
    | cells vs e hi =>
      obtain ⟨c,fz,k1,k2,k3,k4,k5⟩ := r
      exact ⟨c,fz,k1,k2,k3,k4,fun hh => ⟨fun x => x.elim (k5 hh).1 (hk hh),(k5 hh).2⟩⟩
    | obj o =>
      obtain ⟨o',k1,k2,k3,k4⟩ := r
      exact ⟨o',k1,k2,fun x => x.elim k3 (hk trivial),k4⟩
theorem Rel.widen {φ φ' : Phi} {B : Base} {H V V' : Nat → Option Blk} {w w' : World} {lo hi : Nat} {τ : Nat → Bool} (h : Rel φ B H w) (hV : ∀ N b,V N = some b → H N = some b)
    (hR : Rel φ' (B.more (Aside φ H V)) V' w') (hG : Grows (B.more (Aside φ H V)) φ φ' lo hi) (hK : KeepsB (B.more (Aside φ H V)) w w') (hf : Fresh φ lo hi)
    (hoff : ∀ N,τ N = false → V' N = V N) (hon : ∀ N,τ N = true → V' N ≠ none → V N ≠ none ∨ (lo ≤ N ∧ N < hi)) :
    Rel φ' B (fun N => if τ N = true then V' N else H N) w' ∧ Grows B φ φ' lo hi ∧ KeepsB B w w' := by
  -- each name is of the part,or it is aside
  have src : ∀ N b,(if τ N = true then V' N else H N) = some b → V' N = some b ∨ (H N = some b ∧ V N = none) := fun N b hN => by
    cases ht : τ N with
    | true => rw [ht] at hN; exact .inl (by simpa using hN)
    | false =>
      rw [ht] at hN
      simp only [Bool.false_eq_true,if_false] at hN
      cases hv : V N with
      | none => exact .inr ⟨hN,rfl⟩
      | some b' => have := hV _ _ hv; rw [hN] at this; cases this; exact .inl (by rw [hoff N ht,hv])
  have aside : ∀ N b L,H N = some b → V N = none → φ' N = some L → φ N = some L ∧ Aside φ H V L.blk := fun N b L h1 h2 h3 => by
    obtain ⟨L',hL',_⟩ := h.blk N b h1
    have := hG.1 N L' hL'
    rw [h3] at this; cases this
    exact ⟨hL',N,L,by rw [h1]; simp,h2,hL',rfl⟩
  -- a name of the part: it was there,or it stands for no block that is kept
  have part : ∀ N b L,V' N = some b → φ' N = some L → (∃ b',H N = some b' ∧ φ N = some L) ∨ ¬ Aside φ H V L.blk := fun N b L h1 h3 => by
    by_cases hv : V N = none
    · refine .inr fun ha => ?_
      have ht : τ N = true := by
        cases ht : τ N with
        | true => rfl
        | false => rw [hoff N ht,hv] at h1; cases h1
      rcases hon N ht (by rw [h1]; simp) with h4 | ⟨h4,h5⟩
      · exact h4 hv
      · rcases hG.2.2 N L h3 with h6 | h6
        · rw [hf N h4 h5] at h6; cases h6
        · exact h6 (.inr ha)
    · cases hv' : V N with
      | none => exact absurd hv' hv
      | some b' =>
        obtain ⟨L',hL',_⟩ := h.blk N b' (hV _ _ hv')
        have := hG.1 N L' hL'
        rw [h3] at this; cases this
        exact .inl ⟨b',hV _ _ hv',hL'⟩
  -- a writable name of the part stands for no block that is kept
  have apart : ∀ N b L,V' N = some b → φ' N = some L → wr b → ¬ Aside φ H V L.blk := fun N b L h1 h3 hw ha => by
    obtain ⟨L',hL',r⟩ := hR.blk N b h1
    rw [h3] at hL'; cases hL'
    cases b with
    | cells vs e hi => obtain ⟨_,_,_,_,_,_,k5⟩ := r; exact (k5 hw).1 (.inr ha)
    | obj o => obtain ⟨_,_,_,k3,_⟩ := r; exact k3 (.inr ha)
  refine ⟨⟨fun k hk => hR.base k (.inl hk),fun N b hN => ?_,fun N N' b b' L L' hne hN hN' hL hL' hw => ?_,hR.inw⟩,⟨hG.1,hG.2.1,fun N L hL => (hG.2.2 N L hL).imp id fun x y => x (.inl y)⟩,⟨hK.os,hK.tape,hK.output,hK.size,fun k hk => hK.block k (.inl hk)⟩⟩
  · rcases src N b hN with h1 | ⟨h1,h2⟩
    · obtain ⟨L,hL,r⟩ := hR.blk N b h1
      refine ⟨L,hL,?_⟩
      cases b with
      | cells vs e hi =>
        obtain ⟨c,fz,k1,k2,k3,k4,k5⟩ := r
        exact ⟨c,fz,k1,k2,k3,k4,fun hh => ⟨fun x => (k5 hh).1 (.inl x),(k5 hh).2⟩⟩
      | obj o =>
        obtain ⟨o',k1,k2,k3,k4⟩ := r
        exact ⟨o',k1,k2,fun x => k3 (.inl x),k4⟩
    · obtain ⟨L,hL,r⟩ := h.blk N b h1
      have hL' := hG.1 N L hL
      have hk := hK.block L.blk (.inr (aside N b L h1 h2 hL').2)
      exact ⟨L,hL',(r.mono hG.1).congr hk⟩
  · rcases src N b hN with h1 | ⟨h1,h2⟩ <;> rcases src N' b' hN' with h1' | ⟨h1',h2'⟩
    · exact hR.apart N N' b b' L L' hne h1 h1' hL hL' hw
    · intro e
      exact apart N b L h1 hL hw (e ▸ (aside N' b' L' h1' h2' hL').2)
    · rcases part N' b' L' h1' hL' with ⟨b2,h5,h6⟩ | h5
      · exact h.apart N N' b b2 L L' hne h1 h5 (aside N b L h1 h2 hL).1 h6 hw
      · intro e
        exact h5 (e ▸ (aside N b L h1 h2 hL).2)
    · exact h.apart N N' b b' L L' hne h1 h1' (aside N b L h1 h2 hL).1 (aside N' b' L' h1' h2' hL').1 hw
end Go.Ev

/-
  EV, PART S: what a region that draws its order has done, operation by operation, in the order of the text.
-/
namespace Go.Ev
open Go Go.RowKit
theorem lay_cases {β : Type} {b0 : β} {σ : Nat → Bool} {val : Nat → β} {j : Nat} : ∀ {n : Nat},j ≤ n → (∃ i,j ≤ i ∧ i < n ∧ σ i = true ∧ lay b0 σ val n = val i) ∨ lay b0 σ val n = lay b0 σ val j
  | 0, hj => by have : j = 0 := by omega
                subst this; exact .inr rfl
  | n + 1,hj => by
    by_cases e : j = n + 1
    · subst e; exact .inr rfl
    · cases hs : σ n with
      | true => exact .inl ⟨n,by omega,Nat.lt_succ_self _,hs,by simp only [lay,hs,if_true]⟩
      | false =>
        have h0 : lay b0 σ val (n + 1) = lay b0 σ val n := by simp only [lay,hs,Bool.false_eq_true,if_false]
        rcases lay_cases (b0 := b0) (σ := σ) (val := val) (j := j) (n := n) (by omega) with ⟨i,h1,h2,h3,h4⟩ | h4
        · exact .inl ⟨i,h1,by omega,h3,h0.trans h4⟩
        · exact .inr (h0.trans h4)
theorem takeOut_get : ∀ (n a : Nat) (t : Tree) (N : Nat),(takeOut n a t).get N = if a ≤ N ∧ N < a + n then none else t.get N
  | 0,a,t,N => by simp only [takeOut]; rw [if_neg (by omega)]
  | n + 1,a,t,N => by
    simp only [takeOut]
    rw [Tree.get_set]
    by_cases e : N = a
    · subst e; rw [if_pos rfl,if_pos (by omega)]
    · rw [if_neg e,takeOut_get n (a + 1) t N]
      by_cases h : a + 1 ≤ N ∧ N < a + 1 + n
      · rw [if_pos h,if_pos (by omega)]
      · rw [if_neg h,if_neg (by omega)]
theorem takeOutAll_get : ∀ (l : List (Nat × Nat)) (t : Tree) (N : Nat),((takeOutAll l t).get N = none ∨ (takeOutAll l t).get N = t.get N) ∧ (∀ p ∈ l,p.1 ≤ N → N < p.2 → (takeOutAll l t).get N = none)
  | [],t,N => ⟨.inr rfl,fun p hp => by cases hp⟩
  | (a,b) :: r,t,N => by
    obtain ⟨h1,h2⟩ := takeOutAll_get r (takeOut (b - a) a t) N
    simp only [takeOutAll]
    have e := takeOut_get (b - a) a t N
    constructor
    · rcases h1 with h1 | h1
      · exact .inl h1
      · by_cases h : a ≤ N ∧ N < a + (b - a)
        · rw [if_pos h] at e; rw [h1,e]; exact .inl rfl
        · rw [if_neg h] at e; rw [h1,e]; exact .inr rfl
    · intro p hp h3 h4
      rcases List.mem_cons.1 hp with rfl | hp
      · rcases h1 with h1 | h1
        · exact h1
        · rw [h1,e,if_pos (by simp only at h3 h4; omega)]
      · exact h2 p hp h3 h4
theorem giveRange_get : ∀ (n a : Nat) (t' t : Tree) (N : Nat),(giveRange n a t' t).get N = if a ≤ N ∧ N < a + n then t'.get N else t.get N
  | 0,a,t',t,N => by simp only [giveRange]; rw [if_neg (by omega)]
  | n + 1,a,t',t,N => by
    simp only [giveRange]
    rw [giveRange_get n (a + 1)]
    by_cases h : a + 1 ≤ N ∧ N < a + 1 + n
    · rw [if_pos h,if_pos (by omega)]
    · rw [if_neg h,Tree.get_set]
      by_cases e : N = a
      · subst e; rw [if_pos rfl,if_pos (by omega)]
      · rw [if_neg e,if_neg (by omega)]
theorem giveBack_get : ∀ (l : List Nat) (t' t : Tree) (N : Nat),(giveBack l t' t).get N = if N ∈ l then t'.get N else t.get N
  | [],t',t,N => by simp [giveBack]
  | M :: r,t',t,N => by
    simp only [giveBack]
    rw [giveBack_get r t']
    by_cases h : N ∈ r
    · rw [if_pos h,if_pos (List.mem_cons_of_mem _ h)]
    · rw [if_neg h,Tree.get_set]
      by_cases e : N = M
      · subst e; rw [if_pos rfl,if_pos (by simp)]
      · rw [if_neg e,if_neg (by simp [e,h])]
theorem hiddenOf_mem : ∀ (bits : Nat) (ds : List (Nat × Did)) (p : Nat × Did),p ∈ ds → bits.testBit p.1 = false → p.2.lo ≠ p.2.hi → (p.2.lo,p.2.hi) ∈ hiddenOf bits ds
  | bits,[],p,hp,_,_ => by cases hp
  | bits,(j,d) :: ds,p,hp,hb,hl => by
    unfold hiddenOf
    rcases List.mem_cons.1 hp with rfl | hp
    · rw [if_neg (by simp [hb,hl])]
      exact List.mem_cons_self ..
    · split
      · exact hiddenOf_mem bits ds p hp hb hl
      · exact List.mem_cons_of_mem _ (hiddenOf_mem bits ds p hp hb hl)
def Did.touch (d : Did) (N : Nat) : Bool := d.mods.contains N || (decide (d.lo ≤ N) && decide (N < d.hi))
theorem Did.touch_iff {d : Did} {N : Nat} : d.touch N = true ↔ N ∈ d.mods ∨ (d.lo ≤ N ∧ N < d.hi) := by simp [Did.touch]
structure Shown (d : Did) (V : Nat → Option Blk) : Prop where
  none : d.kind ≤ 1 → ∀ N,V N = none
  one : d.kind = 2 ∨ d.kind = 4 → ∀ N,V N ≠ Option.none → N = d.blk
  kind : d.kind ≤ 1 ∨ d.kind = 2 ∨ d.kind = 3 ∨ d.kind = 4
  mods : ∀ N ∈ d.mods,N < d.lo ∧ V N ≠ Option.none ∧ d.kind = 3
  le : d.lo ≤ d.hi
  four : d.kind = 4 → d.lo = d.hi
def PairD (e d : Did) (V : Nat → Option Blk) : Prop := (okPair e d = true ∨ okLate e d = true) ∧ ∀ N,e.lo ≤ N → N < e.hi → V N = none
theorem okOne_spec {a b : Did} (h : okOne a b = true) {N : Nat} (hN : N ∈ a.mods) : b.kind ≤ 1 ∨ ((b.kind = 2 ∨ b.kind = 4) ∧ b.blk ∉ a.mods) := by
  unfold okOne at h
  have hne : a.mods.isEmpty = false := by cases hm : a.mods with
    | nil => rw [hm] at hN; cases hN
    | cons x y => rfl
  simp [hne] at h
  exact h
theorem PairD.apart {e d : Did} {U V : Nat → Option Blk} (h : PairD e d V) (he : Shown e U) (hd : Shown d V) (hle : e.hi ≤ d.lo) (hU : ∀ N,d.lo ≤ N → N < d.hi → U N = none) (N : Nat) :
    (e.touch N = true → V N = none) ∧ (d.touch N = true → U N = none ∨ (e.kind = 4 ∧ N = e.blk ∧ e.again (d.post.get N) = true)) ∧ (e.touch N = true → d.touch N = false) := by
  obtain ⟨h1,h2⟩ := h
  have hone : okOne e d = true := by
    rcases h1 with h1 | h1
    · unfold okPair at h1; rw [Bool.and_eq_true] at h1; exact h1.1
    · unfold okLate at h1; rw [Bool.and_eq_true,Bool.and_eq_true] at h1; exact h1.1.1
  refine ⟨fun ht => ?_,fun ht => ?_,fun ht => ?_⟩
  · rcases Did.touch_iff.1 ht with hm | ⟨k1,k2⟩
    · rcases okOne_spec hone hm with k | ⟨k,k'⟩
      · exact hd.none k N
      · cases hv : V N with
        | none => rfl
        | some x => exact absurd (hd.one k N (by rw [hv]; simp) ▸ hm) k'
    · exact h2 N k1 k2
  · rcases Did.touch_iff.1 ht with hm | ⟨k1,k2⟩
    · cases hv : U N with
      | none => exact .inl rfl
      | some x =>
        rcases h1 with h1 | h1
        · unfold okPair at h1
          rw [Bool.and_eq_true] at h1
          rcases okOne_spec h1.2 hm with k | ⟨k,k'⟩
          · rw [he.none k N] at hv; cases hv
          · exact absurd (he.one k N (by rw [hv]; simp) ▸ hm) k'
        · unfold okLate at h1
          simp only [Bool.and_eq_true,beq_iff_eq] at h1
          have hN := he.one (.inr h1.1.2) N (by rw [hv]; simp)
          have := List.all_eq_true.1 h1.2 N hm
          simp only [Bool.or_eq_true,bne_iff_ne,ne_eq] at this
          exact .inr ⟨h1.1.2,hN,this.resolve_left fun q => q hN⟩
    · exact .inl (hU N k1 k2)
  · cases hx : d.touch N with
    | false => rfl
    | true =>
      exfalso
      rcases Did.touch_iff.1 ht with hm | ⟨k1,k2⟩ <;> rcases Did.touch_iff.1 hx with hm' | ⟨k1',k2'⟩
      · have a3 := (hd.mods N hm').2.2
        rcases okOne_spec hone hm with k | ⟨k,_⟩ <;> omega
      · have := (he.mods N hm).1; have := he.le; omega
      · exact (hd.mods N hm').2.1 (h2 N k1 k2)
      · omega
theorem kind4 {o : Oper} (h : kindOf o = 4) : ∃ t x k,o.op = .lookup t x k false := by
  unfold kindOf at h
  split at h <;> first | (cases h; done) | exact ⟨_,_,_,by assumption⟩
theorem evPlain_look {T : Tab} {ρ : Operand → Value} {t : TypeId} {x k : Operand} {s s' : St} {v : Value} (h : evPlain T ρ (.lookup t x k false) s = some (v,s')) : s' = s := by
  unfold evPlain at h
  simp only at h
  unfold lookup at h
  obtain ⟨p,s1,h1,h2⟩ := bnd_some h
  obtain ⟨_,rfl⟩ := lift_some h1
  obtain ⟨z,s2,h3,h4⟩ := bnd_some h2
  obtain ⟨_,rfl⟩ := lift_some h3
  generalize ρ x = vx at h4
  cases vx <;> try (cases h4; done)
  rename_i r
  cases r with
  | none => exact (ret_some h4).2
  | some r =>
    obtain ⟨m,s3,h5,h6⟩ := bnd_some h4
    obtain ⟨_,rfl⟩ := mapOf_some h5
    obtain ⟨f,s4,h7,h8⟩ := bnd_some h6
    obtain ⟨_,rfl⟩ := lift_some h7
    exact (ret_some h8).2
section
variable {T : Tab}
structure One (T : Tab) (rec : RunCode) (bits : Nat) (ds : List (Nat × Did)) (fr : Fr) (o : Oper) (s : St) (v : Value) (d : Did) (s' a b : St) : Prop where
  run : evOp T rec fr o a = some (v,b)
  anext : a.next = s.next
  bnext : b.next = s'.next
  lo : d.lo = s.next
  hi : d.hi = s'.next
  heap : ∀ N,s'.t.get N = if d.touch N = true then b.t.get N else s.t.get N
  view : ∀ N x,a.t.get N = some x → s.t.get N = some x
  off : ∀ N,d.touch N = false → b.t.get N = a.t.get N
  shown : Shown d a.t.get
  post : d.post = b.t
  late : d.kind = 4 → ∀ c,d.again c = true → evOp T rec fr o ⟨Tree.leaf.set d.blk c,a.next,[]⟩ = some (v,⟨Tree.leaf.set d.blk c,a.next,[]⟩)
  pairs : ∀ p ∈ ds,bits.testBit p.1 = false → PairD p.2 d a.t.get
theorem Tree.get_leaf (N : Nat) : Tree.leaf.get N = none := by simp [Tree.get]; try rfl
theorem drawOne_some {rec : RunCode} (hLg : ∀ cx c fr,Logs (rec cx c fr)) {bits : Nat} {ds : List (Nat × Did)} {fr : Fr} {o : Oper} {s s' : St} {v : Value} {d : Did} (h : drawOne T rec bits ds fr o s = some ((v,d),s')) :
    ∃ a b,One T rec bits ds fr o s v d s' a b := by
  unfold drawOne at h
  split at h
  · cases h
  · rename_i v1 s1 hrun
    split at h
    · rename_i hok
      simp only [Option.some.injEq,Prod.mk.injEq] at h
      obtain ⟨⟨rfl,rfl⟩,rfl⟩ := h
      generalize ha : viewOf (kindOf o) (blkOf fr o) (hiddenOf bits ds) s.t = av at hrun hok
      obtain ⟨g1,l,g2,g3⟩ := Logs.evOp hLg fr o _ _ _ hrun
      simp only [List.append_nil] at g1 g2 g3
      unfold drawOk at hok
      simp only [Bool.and_eq_true] at hok
      obtain ⟨⟨⟨k1,k2⟩,k3⟩,k4⟩ := hok
      have hle : s.next ≤ s1.next := g1
      have hkind : kindOf o ≤ 1 ∨ kindOf o = 2 ∨ kindOf o = 3 ∨ kindOf o = 4 := by unfold kindOf; split <;> simp
      have hview : ∀ N x,av.get N = some x → s.t.get N = some x := fun N x hx => by
        rw [← ha] at hx
        unfold viewOf at hx
        split at hx
        · rcases (takeOutAll_get (hiddenOf bits ds) s.t N).1 with e | e
          · rw [e] at hx; cases hx
          · rw [← e]; exact hx
        · split at hx
          · rw [Tree.get_set] at hx
            by_cases e : N = blkOf fr o
            · rw [if_pos e] at hx; rw [e]; exact hx
            · rw [if_neg e,Tree.get_leaf] at hx; cases hx
          · rw [Tree.get_leaf] at hx; cases hx
      refine ⟨⟨av,s.next,[]⟩,s1,⟨hrun,rfl,rfl,rfl,rfl,fun N => ?_,hview,fun N hN => ?_,⟨fun hk N => ?_,fun hk N hN => ?_,hkind,fun N hN => ?_,hle,fun hk => ?_⟩,rfl,fun hk c hc => ?_,fun p hp hb => ⟨?_,fun N h1 h2 => ?_⟩⟩⟩
      · simp only
        rw [giveBack_get,giveRange_get]
        by_cases ht : N ∈ outer s.next s1
        · rw [if_pos ht,if_pos (Did.touch_iff.2 (.inl ht))]
        · rw [if_neg ht]
          by_cases hr : s.next ≤ N ∧ N < s.next + (s1.next - s.next)
          · rw [if_pos hr,if_pos (Did.touch_iff.2 (.inr ⟨hr.1,by simp only; omega⟩))]
          · rw [if_neg hr,if_neg fun hx => (Did.touch_iff.1 hx).elim ht fun hy => hr ⟨hy.1,by have := hy.2; simp only at this; omega⟩]
      · by_cases e : s1.t.get N = av.get N
        · exact e
        · exfalso
          have hx : ∀ {p : Prop},p → (⟨kindOf o,blkOf fr o,s.next,s1.next,outer s.next s1,againOf T fr o s.next v1,s1.t⟩ : Did).touch N = true → False := fun _ ht => by rw [ht] at hN; cases hN
          by_cases hr : s.next ≤ N ∧ N < s1.next
          · exact hx trivial (Did.touch_iff.2 (.inr hr))
          · rcases g3 N e with hm | hm
            · refine hx trivial (Did.touch_iff.2 (.inl ?_))
              simp only [outer,List.mem_filter,Bool.or_eq_true,decide_eq_true_eq]
              exact ⟨by rw [g2]; exact hm,by omega⟩
            · exact hr hm
      · simp only at hk
        simp only [← ha]
        unfold viewOf
        rw [if_neg (by simp; omega),if_neg (by simp; omega),Tree.get_leaf]
      · simp only at hk hN ⊢
        rw [← ha] at hN
        unfold viewOf at hN
        rw [if_neg (by simp; omega),if_pos (by simp; omega),Tree.get_set] at hN
        by_cases e : N = blkOf fr o
        · exact e
        · rw [if_neg e,Tree.get_leaf] at hN; exact absurd rfl hN
      · simp only at hN k1 k2 ⊢
        have := List.all_eq_true.1 k2 N hN
        simp only [Bool.and_eq_true,decide_eq_true_eq] at this
        refine ⟨this.1,fun e => by rw [e] at this; simp at this,?_⟩
        rw [Bool.or_eq_true] at k1
        rcases k1 with k | k
        · simpa using k
        · cases hm : outer s.next s1 with
          | nil => rw [hm] at hN; cases hN
          | cons x y => rw [hm] at k; cases k
      · simp only at hk ⊢
        obtain ⟨t,x,q,ho⟩ := kind4 hk
        unfold evOp at hrun
        rw [ho] at hrun
        rw [evPlain_look hrun]
      · simp only at hk hc ⊢
        obtain ⟨t,x,q,ho⟩ := kind4 hk
        unfold againOf at hc
        unfold evOp
        rw [ho] at hc ⊢
        simp only
        split at hc
        · rename_i v2 s2 h2
          have := evPlain_look h2
          subst this
          rw [sameKey_eq hc]
          exact h2
        · cases hc
      · have := List.all_eq_true.1 k4 p hp
        rw [hb,Bool.false_or,Bool.or_eq_true] at this
        exact this
      · simp only
        by_cases e : p.2.lo = p.2.hi
        · omega
        · have hm := hiddenOf_mem bits ds p hp hb e
          rw [← ha]
          unfold viewOf
          split
          · exact (takeOutAll_get (hiddenOf bits ds) s.t N).2 _ hm h1 h2
          · rename_i hk3
            split
            · rename_i hk2
              rw [Tree.get_set,if_neg,Tree.get_leaf]
              intro e2
              have k3' : (((kindOf o != 2) && (kindOf o != 4)) : Bool) = false := by
                rw [Bool.or_eq_true,beq_iff_eq,beq_iff_eq] at hk2
                rcases hk2 with hk2 | hk2 <;> simp [hk2]
              rw [k3',Bool.false_or] at k3
              have := List.all_eq_true.1 k3 _ hm
              simp only [Bool.or_eq_true,decide_eq_true_eq] at this
              omega
            · exact Tree.get_leaf N
    · cases h
structure Tr where
  ran : Bool
  fr : Fr
  v : Value
  st : St
  a : St
  b : St
  did : Did
def Tr.touch (x : Tr) (N : Nat) : Bool := x.ran && x.did.touch N
structure Good (T : Tab) (rec : RunCode) (ops : Array Oper) (X : Nat → Tr) (j : Nat) (o : Oper) : Prop where
  at_ : ops[j]? = some o
  ran : (X j).ran = Region.wanted o (yieldedL ops (X j).fr.tmps)
  fr : (X (j + 1)).fr = (X j).fr.put o.dst (X j).v
  skip : (X j).ran = false → (X j).v = undef ∧ (X (j + 1)).st = (X j).st
  one : (X j).ran = true → One T rec 0 [] (X j).fr o (X j).st (X j).v (X j).did (X (j + 1)).st (X j).a (X j).b
theorem One.weak {rec : RunCode} {bits : Nat} {ds : List (Nat × Did)} {fr : Fr} {o : Oper} {s s' a b : St} {v : Value} {d : Did} (h : One T rec bits ds fr o s v d s' a b) : One T rec 0 [] fr o s v d s' a b :=
  ⟨h.run,h.anext,h.bnext,h.lo,h.hi,h.heap,h.view,h.off,h.shown,h.post,h.late,fun p hp => by cases hp⟩
theorem evDraw_trace {rec : RunCode} (hLg : ∀ cx c fr,Logs (rec cx c fr)) {ops : Array Oper} {bef : List Nat} : ∀ (os : List Oper) (i : Nat) (ds : List (Nat × Did)) (fr fr' : Fr) (s s' : St),os = ops.toList.drop i → i ≤ ops.size →
    evDraw T rec ops bef i os ds fr s = some (fr',s') →
    ∃ X : Nat → Tr,(X i).fr = fr ∧ (X i).st = s ∧ (X ops.size).fr = fr' ∧ (X ops.size).st = s' ∧ (∀ j,i ≤ j → j < ops.size → ∃ o,Good T rec ops X j o) ∧
      (∀ j,i ≤ j → j < ops.size → (X j).ran = true → ∀ p ∈ ds,(bef.getD j 0).testBit p.1 = false → PairD p.2 (X j).did (X j).a.t.get) ∧
      (∀ k j,i ≤ k → k < j → j < ops.size → (X k).ran = true → (X j).ran = true → (bef.getD j 0).testBit k = false → PairD (X k).did (X j).did (X j).a.t.get)
  | [],i,ds,fr,fr',s,s',hos,hi,h => by
    obtain ⟨rfl,rfl⟩ := ret_some h
    have : ops.size ≤ i := by have := congrArg List.length hos; simp at this; omega
    have e : ops.size = i := by omega
    exact ⟨fun _ => ⟨false,fr',undef,s',s',s',⟨0,0,0,0,[],fun _ => false,.leaf⟩⟩,rfl,rfl,rfl,rfl,fun j h1 h2 => by omega,fun j h1 h2 => by omega,fun k j h1 h2 h3 => by omega⟩
  | o :: os,i,ds,fr,fr',s,s',hos,hi,h => by
    have hlt : i < ops.toList.length := by
      rcases Nat.lt_or_ge i ops.toList.length with h1 | h1
      · exact h1
      · rw [List.drop_eq_nil_of_le h1] at hos; cases hos
    have hlt' : i < ops.size := by simpa using hlt
    rw [List.drop_eq_getElem_cons hlt,List.cons.injEq] at hos
    have ho : ops[i]? = some o := by rw [← Array.getElem?_toList,hos.1]; exact List.getElem?_eq_getElem hlt
    unfold evDraw at h
    split at h
    · rename_i hw
      obtain ⟨⟨v,d⟩,s1,h1,h2⟩ := bnd_some h
      obtain ⟨a,b,hone⟩ := drawOne_some hLg h1
      obtain ⟨X,x1,x2,x3,x4,x5,x6,x7⟩ := evDraw_trace hLg os (i + 1) ((i,d) :: ds) (fr.put o.dst v) fr' s1 s' hos.2 (by omega) h2
      refine ⟨fun n => if n = i then ⟨true,fr,v,s,a,b,d⟩ else X n,by simp,by simp,by simpa [show ¬ ops.size = i by omega] using x3,by simpa [show ¬ ops.size = i by omega] using x4,fun j k1 k2 => ?_,fun j k1 k2 hr p hp hb => ?_,fun k j k1 k2 k3 hr hr' hb => ?_⟩
      · by_cases e : j = i
        · subst e
          refine ⟨o,ho,by simp [hw],by simp [x1],by simp,fun _ => ?_⟩
          simp only [if_true,if_neg (show ¬ j + 1 = j by omega),x2]
          exact hone.weak
        · obtain ⟨o',g⟩ := x5 j (by omega) k2
          refine ⟨o',g.at_,?_,?_,?_,?_⟩ <;> simp only [if_neg e,if_neg (show ¬ j + 1 = i by omega)]
          · exact g.ran
          · exact g.fr
          · exact g.skip
          · exact g.one
      · by_cases e : j = i
        · subst e; simp only [if_true]; exact hone.pairs p hp hb
        · simp only [if_neg e] at hr ⊢; exact x6 j (by omega) k2 hr p (List.mem_cons_of_mem _ hp) hb
      · simp only [if_neg (show ¬ j = i by omega)] at hr' ⊢
        by_cases e : k = i
        · subst e; simp only [if_true]; exact x6 j (by omega) k3 hr' (k,d) (List.mem_cons_self ..) hb
        · simp only [if_neg e] at hr ⊢; exact x7 k j (by omega) k2 k3 hr hr' hb
    · rename_i hw
      obtain ⟨X,x1,x2,x3,x4,x5,x6,x7⟩ := evDraw_trace hLg os (i + 1) ds (fr.put o.dst undef) fr' s s' hos.2 (by omega) h
      refine ⟨fun n => if n = i then ⟨false,fr,undef,s,s,s,⟨0,0,0,0,[],fun _ => false,.leaf⟩⟩ else X n,by simp,by simp,by simpa [show ¬ ops.size = i by omega] using x3,by simpa [show ¬ ops.size = i by omega] using x4,fun j k1 k2 => ?_,fun j k1 k2 hr p hp hb => ?_,fun k j k1 k2 k3 hr hr' hb => ?_⟩
      · by_cases e : j = i
        · subst e
          refine ⟨o,ho,by simp; simpa using hw,by simp [x1],fun _ => ⟨by simp,by simp [x2]⟩,fun hh => by simp at hh⟩
        · obtain ⟨o',g⟩ := x5 j (by omega) k2
          refine ⟨o',g.at_,?_,?_,?_,?_⟩ <;> simp only [if_neg e,if_neg (show ¬ j + 1 = i by omega)]
          · exact g.ran
          · exact g.fr
          · exact g.skip
          · exact g.one
      · by_cases e : j = i
        · subst e; simp at hr
        · simp only [if_neg e] at hr ⊢; exact x6 j (by omega) k2 hr p hp hb
      · simp only [if_neg (show ¬ j = i by omega)] at hr' ⊢
        by_cases e : k = i
        · subst e; simp at hr
        · simp only [if_neg e] at hr ⊢; exact x7 k j (by omega) k2 k3 hr hr' hb
end
end Go.Ev
