/-
  EV: a heap whose arguments are any number of blocks: they hang at one place of the tree, so that the kernel runs a fixed fact over them.
-/
import Derived.Test.YtelpkdjibjddlaaEvWalk
import Derived.Test.YtelpkdjibjddlaaEvShift
namespace Go.Ev
open Go
namespace Tree
def leftAt : Nat → Tree → Tree
  | 0,t => t
  | _ + 1,leaf => leaf
  | m + 1,node _ l _ => leftAt m l
def clear : Nat → Tree → Tree
  | 0,_ => leaf
  | _ + 1,leaf => leaf
  | m + 1,node v l r => node v (clear m l) r
def plug : Nat → Tree → Tree
  | 0,x => x
  | m + 1,x => node none (plug m x) leaf
end Tree
def pathN : Nat → Nat → Option Nat
  | 0,N => some N
  | m + 1,N => if N % 2 = 1 then pathN m (N / 2) else none
def nameAt : Nat → Nat → Nat
  | 0,i => i
  | m + 1,i => 2 * nameAt m i + 1
theorem path_name : ∀ m i,pathN m (nameAt m i) = some i
  | 0,i => rfl
  | m + 1,i => by
    unfold pathN nameAt
    rw [if_pos (by omega),show (2 * nameAt m i + 1) / 2 = nameAt m i by omega]
    exact path_name m i
theorem name_path : ∀ {m N i : Nat},pathN m N = some i → N = nameAt m i
  | 0,N,i,h => by unfold pathN at h; cases h; rfl
  | m + 1,N,i,h => by
    unfold pathN at h
    split at h
    · have := name_path h
      unfold nameAt; omega
    · cases h
theorem nameAt_eq : ∀ m i,nameAt m i + 1 = 2 ^ m * (i + 1)
  | 0,i => by unfold nameAt; simp
  | m + 1,i => by
    have ih := nameAt_eq m i
    unfold nameAt
    rw [Nat.pow_succ,Nat.mul_comm (2 ^ m) 2,Nat.mul_assoc,← ih]; omega
theorem get_split : ∀ (m : Nat) (t : Tree) (N : Nat),t.get N = match pathN m N with | some i => (t.leftAt m).get i | none => (t.clear m).get N
  | 0,t,N => rfl
  | m + 1,.leaf,N => by
    unfold pathN Tree.leftAt Tree.clear
    have : ∀ i,Tree.leaf.get i = none := fun i => by simp [Tree.get]
    split <;> simp [this]
  | m + 1,.node v l r,N => by
    have ih := get_split m l (N / 2)
    have hg : ∀ (v : Option Blk) (l r : Tree) (k : Nat),(Tree.node v l r).get k = if k = 0 then v else if k % 2 = 1 then l.get (k / 2) else r.get (k / 2 - 1) := fun v l r k => by rw [Tree.get.eq_def]
    by_cases hN : N % 2 = 1
    · have e1 : pathN (m + 1) N = pathN m (N / 2) := if_pos hN
      rw [e1,hg,if_neg (by omega),if_pos hN,ih]
      cases pathN m (N / 2) with
      | some i => rfl
      | none =>
        show _ = (Tree.node v (l.clear m) r).get N
        rw [hg,if_neg (by omega),if_pos hN]
    · have e1 : pathN (m + 1) N = none := if_neg hN
      rw [e1,hg]
      show _ = (Tree.node v (l.clear m) r).get N
      rw [hg]
      by_cases h0 : N = 0
      · rw [if_pos h0,if_pos h0]
      · rw [if_neg h0,if_neg h0,if_neg hN,if_neg hN]
theorem leftAt_plug : ∀ (m : Nat) (x : Tree),(Tree.plug m x).leftAt m = x
  | 0,x => rfl
  | m + 1,x => leftAt_plug m x
def noneBelow : Nat → Tree → Bool
  | _,.leaf => true
  | n,.node v l r => Nat.beq n 0 || ((match v with | none => true | some _ => false) && (noneBelow (n / 2) l && noneBelow ((n - 1) / 2) r))
theorem noneBelow_get : ∀ {t : Tree} {n : Nat},noneBelow n t = true → ∀ k,k < n → t.get k = none
  | .leaf,n,_,k,_ => by simp [Tree.get]
  | .node v l r,n,h,k,hk => by
    have hg : ∀ (v : Option Blk) (l r : Tree) (k : Nat),(Tree.node v l r).get k = if k = 0 then v else if k % 2 = 1 then l.get (k / 2) else r.get (k / 2 - 1) := fun v l r k => by rw [Tree.get.eq_def]
    unfold noneBelow at h
    rw [Bool.or_eq_true,Bool.and_eq_true,Bool.and_eq_true] at h
    rcases h with h | ⟨h1,h2,h3⟩
    · have := Nat.eq_of_beq_eq_true h; omega
    rw [hg]
    by_cases h0 : k = 0
    · rw [if_pos h0]
      cases v with
      | none => rfl
      | some x => cases h1
    · rw [if_neg h0]
      by_cases hm : k % 2 = 1
      · rw [if_pos hm]; exact noneBelow_get h2 _ (by omega)
      · rw [if_neg hm]; exact noneBelow_get h3 _ (by omega)
theorem plug_clear (m : Nat) (x : Tree) {N : Nat} (h : pathN m N = none) : (Tree.plug m x).get N = none := by
  rw [get_split m,h]
  show ((Tree.plug m x).clear m).get N = none
  have : ∀ (m : Nat) (x : Tree) (N : Nat),((Tree.plug m x).clear m).get N = none := by
    intro m
    induction m with
    | zero => intro x N; unfold Tree.clear; simp [Tree.get]
    | succ m ih =>
      intro x N
      show (Tree.node none ((Tree.plug m x).clear m) .leaf).get N = none
      rw [Tree.get.eq_def]
      simp only [ih]
      have : ∀ i,Tree.leaf.get i = none := fun i => by simp [Tree.get]
      simp [this]
  exact this m x N
theorem plug_at (m : Nat) (x : Tree) (i : Nat) : (Tree.plug m x).get (nameAt m i) = x.get i := by
  rw [get_split m,path_name]
  show ((Tree.plug m x).leftAt m).get i = _
  rw [leftAt_plug]
def dep : Nat := 10
abbrev nxt : Nat := 18889465931478580854784
theorem name_lt {i : Nat} (h : i < 2 ^ 63) : nameAt dep i < nxt := by
  have := nameAt_eq dep i
  have e : (2 : Nat) ^ dep = 1024 := rfl
  rw [e] at this
  show _ < 18889465931478580854784
  omega
theorem alive_plug {T : Tab} {f : FuncId} {x : Tree} (n : Nat) (hn : Nat.ble nxt n = true) (h : (evCall T 1000 f [] ⟨Tree.plug dep x,nxt,[]⟩).map (fun p => (p.1,p.2.mods,p.2.next,p.2.t.leftAt dep,noneBelow nxt (p.2.t.clear dep))) = some (.bool true,[],n,x,true)) : EndsPure T f [] ⟨Tree.plug dep x,nxt,[]⟩ fun v _ _ => v = .bool true := by
  cases he : evCall T 1000 f [] ⟨Tree.plug dep x,nxt,[]⟩ with
  | none => rw [he] at h; cases h
  | some p =>
    obtain ⟨v,s'⟩ := p
    rw [he] at h
    simp only [Option.map_some,Option.some.injEq,Prod.mk.injEq] at h
    obtain ⟨h1,h2,h3,h4,h5⟩ := h
    refine ⟨1000,v,s',he,⟨by rw [h3]; exact Nat.le_of_ble_eq_true hn,h2,fun N hN => ?_⟩,h1⟩
    have hN : N < nxt := hN
    show s'.t.get N = (Tree.plug dep x).get N
    rw [get_split dep]
    cases hp : pathN dep N with
    | some i =>
      show (s'.t.leftAt dep).get i = _
      rw [h4,name_path hp,plug_at]
    | none =>
      rw [plug_clear _ _ hp]
      exact noneBelow_get h5 N (by omega)
end Go.Ev

