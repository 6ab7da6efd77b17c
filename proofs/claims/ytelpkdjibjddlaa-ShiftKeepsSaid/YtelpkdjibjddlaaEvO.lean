/-
  EV, PART O: what a step writes is told: names grow, and whatever turns is new or written down.
-/
import Derived.Test.YtelpkdjibjddlaaEvL
set_option linter.unusedSimpArgs false
set_option linter.unusedVariables false
namespace Go.Ev
open Go Go.RowKit

/-- From one state to a later one. -/
def Log (s s' : St) : Prop := s.next ≤ s'.next ∧ ∃ l, s'.mods = l ++ s.mods ∧ ∀ N, s'.t.get N ≠ s.t.get N → N ∈ l ∨ (s.next ≤ N ∧ N < s'.next)

theorem Log.refl (s : St) : Log s s := ⟨Nat.le_refl _, [], rfl, fun _ h => absurd rfl h⟩
theorem Log.trans {a b c : St} (h : Log a b) (k : Log b c) : Log a c := by
  obtain ⟨h1, l, h2, h3⟩ := h
  obtain ⟨k1, m, k2, k3⟩ := k
  refine ⟨Nat.le_trans h1 k1, m ++ l, by rw [k2, h2, List.append_assoc], fun N hN => ?_⟩
  by_cases e : c.t.get N = b.t.get N
  · rcases h3 N (by rw [← e]; exact hN) with h4 | h4
    · exact .inl (by simp [h4])
    · exact .inr ⟨h4.1, by omega⟩
  · rcases k3 N e with h4 | h4
    · exact .inl (by simp [h4])
    · exact .inr ⟨by omega, h4.2⟩

def Logs {α : Type} (m : M α) : Prop := ∀ s a s', m s = some (a, s') → Log s s'

theorem Logs.ret {α : Type} (a : α) : Logs (Ev.ret a) := fun s b s' h => by rw [(ret_some h).2]; exact .refl _
theorem Logs.fail {α : Type} : Logs (Ev.fail : M α) := fun s b s' h => by cases h
theorem Logs.lift {α : Type} (o : Option α) : Logs (Ev.lift o) := fun s b s' h => by rw [(lift_some h).2]; exact .refl _
theorem Logs.bnd {α β : Type} {m : M α} {f : α → M β} (h : Logs m) (hf : ∀ a, Logs (f a)) : Logs (Ev.bnd m f) := fun s b s' e => by
  obtain ⟨a, s1, h1, h2⟩ := bnd_some e
  exact (h _ _ _ h1).trans (hf a _ _ _ h2)
theorem Logs.newB (b : Blk) : Logs (Ev.newB b) := fun s N s' h => by
  obtain ⟨rfl, rfl⟩ := newB_some h
  refine ⟨Nat.le_succ _, [], rfl, fun N hN => ?_⟩
  by_cases e : N = s.next
  · subst e; exact .inr ⟨Nat.le_refl _, Nat.lt_succ_self _⟩
  · simp only [Tree.get_set_ne _ _ e] at hN; exact absurd rfl hN
theorem Logs.setB (N : Nat) (b : Blk) : Logs (Ev.setB N b) := fun s u s' h => by
  obtain ⟨_, rfl⟩ := setB_some h
  refine ⟨Nat.le_refl _, [N], rfl, fun M hM => ?_⟩
  by_cases e : M = N
  · exact .inl (by simp [e])
  · simp only [Tree.get_set_ne _ _ e] at hM; exact absurd rfl hM
theorem Logs.delB (N : Nat) : Logs (Ev.delB N) := fun s u s' h => by
  obtain ⟨_, rfl⟩ := delB_some h
  refine ⟨Nat.le_refl _, [N], rfl, fun M hM => ?_⟩
  by_cases e : M = N
  · exact .inl (by simp [e])
  · simp only [Tree.get_set_ne _ _ e] at hM; exact absurd rfl hM
theorem Logs.rowOf (N : Nat) : Logs (Ev.rowOf N) := fun s r s' h => by rw [(rowOf_some h).2]; exact .refl _
theorem Logs.addr (v : Value) : Logs (Ev.addr v) := fun s r s' h => by rw [(addr_some (v' := v) h).2]; exact .refl _
theorem Logs.getLoop (l : Nat) : Logs (Ev.getLoop l) := fun s r s' h => by
  unfold Ev.getLoop at h
  split at h
  · cases h; exact .refl _
  · cases h
theorem Logs.ite {α : Type} {c : Prop} [Decidable c] {a b : M α} (ha : Logs a) (hb : Logs b) : Logs (if c then a else b) := by split <;> assumption

section
variable {T : Tab}

theorem Logs.loadVar (t : TypeId) (N o : Nat) : Logs (Ev.loadVar T t N o) := by
  unfold Ev.loadVar
  refine .bnd (.rowOf _) fun x => ?_
  repeat' first | exact .ret _ | exact .fail | split
theorem Logs.storeCells (N o : Nat) (vs : List Value) : Logs (Ev.storeCells N o vs) := by
  unfold Ev.storeCells
  split
  · exact .ret _
  · refine .bnd (.rowOf _) fun x => ?_
    repeat' first | exact .ret _ | exact .fail | exact .setB _ _ | split
theorem Logs.storeVar (t : TypeId) (N o : Nat) (v : Value) : Logs (Ev.storeVar T t N o v) := by
  unfold Ev.storeVar
  repeat' first | exact .fail | exact .storeCells _ _ _ | split
theorem Logs.newRow (e : TypeId) (vs : List Value) : Logs (Ev.newRow e vs) := by
  unfold Ev.newRow
  exact .bnd (.newB _) fun _ => .ret _
theorem Logs.buildSlice (t : TypeId) (n : Nat) (p : List (Nat × Value)) : Logs (Ev.buildSlice T t n p) := by
  unfold Ev.buildSlice
  repeat' first | exact .fail | exact .bnd (.newB _) fun _ => .ret _ | split
theorem Logs.makeSlice (t : TypeId) (l c : Value) : Logs (Ev.makeSlice T t l c) := by
  unfold Ev.makeSlice
  repeat' first | exact .fail | exact .bnd (.newB _) fun _ => .ret _ | split
theorem Logs.strToBytes (e : TypeId) (l : List UInt8) : Logs (Ev.strToBytes e l) := by
  unfold Ev.strToBytes
  repeat' first | exact .fail | exact .bnd (.newB _) fun _ => .ret _ | split
theorem Logs.bytesToStr (N o n : Nat) : Logs (Ev.bytesToStr N o n) := by
  unfold Ev.bytesToStr
  exact .bnd (.rowOf _) fun x => .bnd (.lift _) fun _ => .ret _
theorem Logs.toUnsafe (t : TypeId) (N o : Nat) : Logs (Ev.toUnsafe T t N o) := by
  unfold Ev.toUnsafe
  split
  · exact .bnd (.rowOf _) fun x => .ite (.ret _) .fail
  · exact .fail
theorem Logs.fromUnsafe (t : TypeId) (N o : Nat) : Logs (Ev.fromUnsafe T t N o) := by
  unfold Ev.fromUnsafe
  split
  · exact .bnd (.rowOf _) fun x => .ite (.ret _) .fail
  · exact .fail
theorem Logs.convert (a b : TypeId) (x : Value) : Logs (Ev.convert T a b x) := by
  unfold Ev.convert Ev.convertD
  repeat' first | exact .fail | exact .ret _ | exact .strToBytes _ _ | exact .bytesToStr _ _ _ | exact .toUnsafe _ _ _ | exact .fromUnsafe _ _ _ | split
theorem Logs.firstCells (n k : Nat) (x : Value) : Logs (Ev.firstCells n k x) := by
  unfold Ev.firstCells
  repeat' first | exact .fail | exact .ret _ | exact .bnd (.rowOf _) fun _ => .lift _ | split
theorem Logs.append (ts : List TypeId) (args : List Value) : Logs (Ev.append T ts args) := by
  unfold Ev.append
  repeat' first | exact .fail | split
  unfold Ev.appendOf
  refine .bnd (.lift _) fun _ => .bnd (.lift _) fun _ => .bnd (.lift _) fun _ => .bnd (.lift _) fun _ => .bnd (.firstCells _ _ _) fun _ => ?_
  repeat' first | exact .fail | exact .ret _ | exact .bnd (.storeCells _ _ _) fun _ => .ret _ | split
  · unfold Ev.appendEnd
    refine .bnd (.rowOf _) fun x => .bnd (.lift _) fun _ => .ite ?_ .fail
    exact .bnd (.delB _) fun _ => .bnd (.newB _) fun _ => .ret _
  · unfold Ev.appendNew
    refine .bnd (.firstCells _ _ _) fun x => .ite ?_ .fail
    exact .bnd (.newB _) fun _ => .ret _
theorem Logs.builtin (b : Builtin) (ts : List TypeId) (args : List Value) : Logs (Ev.builtin T b ts args) := by
  unfold Ev.builtin
  split
  · exact .append _ _
  · unfold Ev.len; repeat' first | exact .fail | exact .ret _ | split
  · unfold Ev.copy; repeat' first | exact .fail | exact .ret _ | exact .bnd (.storeCells _ _ _) fun _ => .ret _ | refine .bnd (.firstCells _ _ _) fun _ => ?_ | split
  · unfold Ev.clear; repeat' first | exact .fail | exact .ret _ | exact .bnd (.storeCells _ _ _) fun _ => .ret _ | split
  · exact .lift _
  · exact .lift _
  · exact .lift _
  · unfold Ev.unsafeStr
    repeat' first | exact .fail | exact .ret _ | exact .bnd (.setB _ _) fun _ => .ret _ | refine .bnd (.lift _) fun _ => ?_ | refine .bnd (.rowOf _) fun _ => ?_ | split
  · exact .fail
theorem Logs.rangeOp (t : TypeId) (x : Value) : Logs (Ev.rangeOp T t x) := by
  unfold Ev.rangeOp
  repeat' first | exact .fail | exact .bnd (.newB _) fun _ => .ret _ | split
theorem Logs.nextOp (x : Value) (b : Bool) : Logs (Ev.nextOp x b) := fun s a s' h => by
  unfold Ev.nextOp at h
  split at h
  · simp only at h
    split at h
    · split at h
      · exact Logs.bnd (.setB _ _) (fun _ => .ret _) _ _ _ h
      · cases h; exact .refl _
    · cases h
  · cases h

theorem Logs.plain (ρ : Operand → Value) (o : Op) : Logs (evPlain T ρ o) := by
  unfold evPlain
  split
  all_goals first
    | exact .ret _
    | exact .lift _
    | exact .fail
    | exact .newRow _ _
    | exact .bnd (.lift _) fun _ => .newRow _ _
    | exact .buildSlice _ _ _
    | exact .bnd (.addr _) fun _ => .loadVar _ _ _
    | exact .bnd (.bnd (.addr _) fun _ => .storeVar _ _ _ _) fun _ => .ret _
    | exact .convert _ _ _
    | exact .makeSlice _ _ _
    | exact .ite .fail (.lift _)
    | exact .rangeOp _ _
    | exact .nextOp _ _
    | exact .builtin _ _ _

theorem Logs.takeDefers : ∀ ds, Logs (Ev.takeDefers ds)
  | [] => .ret _
  | d :: ds => fun s a s' h => by
    simp only [Ev.takeDefers] at h
    split at h
    · exact Logs.bnd (.setB _ _) (fun _ => Logs.takeDefers ds) _ _ _ h
    · cases h
theorem Logs.results (tmps : List Value) : ∀ rs, Logs (Ev.results T tmps rs)
  | [] => .ret _
  | .tmp t :: rs => .bnd (Logs.results tmps rs) fun _ => .ret _
  | .cell a t :: rs => by
    unfold Ev.results
    split
    · exact .bnd (.loadVar _ _ _) fun _ => .bnd (Logs.results tmps rs) fun _ => .ret _
    · exact .fail
theorem Logs.finishCall (F : Fn) (e : Ex) (fr : Fr) : Logs (Ev.finishCall T F e fr) := by
  unfold Ev.finishCall
  split
  · exact .fail
  · exact .bnd (.takeDefers _) fun _ => .bnd (.results _ _) fun _ => .ret _
theorem Logs.trim {α : Type} {m : M α} (h : Logs m) : Logs (trimMods m) := fun s a s' e => by
  unfold trimMods at e
  split at e
  · rename_i v s1 h1
    cases e
    obtain ⟨k1, l, k2, k3⟩ := h _ _ _ h1
    refine ⟨k1, newMods s s1, rfl, fun N hN => ?_⟩
    rcases k3 N hN with h4 | h4
    · by_cases hlt : N < s.next ∨ s1.next ≤ N
      · refine .inl ?_
        simp only [newMods, k2, List.length_append, Nat.add_sub_cancel, List.take_left', List.mem_filter]
        exact ⟨h4, by simpa using hlt⟩
      · exact .inr (by simp only; omega)
    · exact .inr h4
  · cases e

end
end Go.Ev
