/-
  EV: the rules of a printed walk: explicit values, explicit frames; states behind memory by what is known of them.
-/
import Derived.Test.YtelpkdjibjddlaaEvFuel
set_option linter.unusedSimpArgs false
set_option linter.unusedVariables false
namespace Go.Ev
open Go Go.RowKit

/-- What a function that writes nothing of its caller's leaves. -/
structure Keep (s s' : St) : Prop where
  next : s.next ≤ s'.next
  mods : s'.mods = s.mods
  old : ∀ N, N < s.next → s'.t.get N = s.t.get N

theorem Keep.refl (s : St) : Keep s s := ⟨Nat.le_refl _, rfl, fun _ _ => rfl⟩
theorem Keep.trans {a b c : St} (h : Keep a b) (k : Keep b c) : Keep a c :=
  ⟨Nat.le_trans h.next k.next, k.mods.trans h.mods, fun N hN => (k.old N (Nat.lt_of_lt_of_le hN h.next)).trans (h.old N hN)⟩

section
variable {T : Tab} {fr : Fr} {s : St} {ops : Array Oper} {o : Oper} {os : List Oper} {Q : Fr → St → Prop}

theorem EndsOps.plain1 {v : Value} {s1 : St} {fr1 : Fr} (hw : Region.wanted o (yieldedL ops fr.tmps) = true) (hp : evPlain T fr.eval o.op s = some (v, s1)) (hc : ∀ f args ts, o.op ≠ .call ⟨.value f, args, ts⟩)
    (hf : fr.put o.dst v = fr1) (h : EndsOps T ops os fr1 s1 Q) : EndsOps T ops (o :: os) fr s Q := EndsOps.plain hw hp hc (hf ▸ h)
theorem EndsOps.skip1 {fr1 : Fr} (hw : Region.wanted o (yieldedL ops fr.tmps) = false) (hf : fr.put o.dst undef = fr1) (h : EndsOps T ops os fr1 s Q) : EndsOps T ops (o :: os) fr s Q := EndsOps.skip hw (hf ▸ h)

/-- A new block. -/
theorem EndsOps.new1 {e : TypeId} {vs : List Value} {fr1 : Fr} (hw : Region.wanted o (yieldedL ops fr.tmps) = true)
    (hp : evPlain T fr.eval o.op s = some (.pointer (some ⟨s.next, 0, none⟩), { s with t := s.t.set s.next (some (.cells vs e 0)), next := s.next + 1 })) (hc : ∀ f args ts, o.op ≠ .call ⟨.value f, args, ts⟩)
    (hf : fr.put o.dst (.pointer (some ⟨s.next, 0, none⟩)) = fr1)
    (h : ∀ s1 : St, s1.next = s.next + 1 → s1.mods = s.mods → s1.t.get s.next = some (.cells vs e 0) → (∀ N, N ≠ s.next → s1.t.get N = s.t.get N) → EndsOps T ops os fr1 s1 Q) : EndsOps T ops (o :: os) fr s Q :=
  EndsOps.plain1 hw hp hc hf (h _ rfl rfl (Tree.get_set_same _ _ _) fun N hN => Tree.get_set_ne _ _ hN)

/-- A call by contract. -/
theorem EndsOps.call1 {f : Operand} {args : Array Operand} {ts : Array TypeId} {g : FuncId} {a c : Array Value} {as : List Value} {R : Value → St → Prop} (hw : Region.wanted o (yieldedL ops fr.tmps) = true) (ho : o.op = .call ⟨.value f, args, ts⟩)
    (hf : fr.eval f = .func (.func g) a c) (ha : a.toList ++ args.toList.map fr.eval ++ c.toList = as) (hR : EndsCall T g as s R) (h : ∀ v s1, R v s1 → EndsOps T ops os (fr.put o.dst v) s1 Q) : EndsOps T ops (o :: os) fr s Q :=
  EndsOps.call hw ho hf (by rw [ha]; exact hR.mono h)
end

section
variable {T : Tab} {fr : Fr} {s : St} {ops : Array Oper} {bef : List Nat} {i : Nat} {o : Oper} {os : List Oper} {ds : List (Nat × Did)} {Q : Fr → St → Prop}

theorem EndsDraw.nil (h : Q fr s) : EndsDraw T ops bef i [] ds fr s Q := ⟨0, fr, s, rfl, h⟩
theorem EndsDraw.skip1 {fr1 : Fr} (hw : Region.wanted o (yieldedL ops fr.tmps) = false) (hf : fr.put o.dst undef = fr1) (h : EndsDraw T ops bef (i + 1) os ds fr1 s Q) : EndsDraw T ops bef i (o :: os) ds fr s Q := by
  obtain ⟨k, fr', s', h1, h2⟩ := h
  refine ⟨k, fr', s', ?_, h2⟩
  unfold evDraw
  rw [if_neg (by rw [hw]; simp), hf]; exact h1

/-- Those before have written nothing. -/
def Calm (ds : List (Nat × Did)) : Prop := ∀ p ∈ ds, p.2.mods = []
theorem Calm.nil : Calm [] := fun _ h => by cases h
theorem Calm.cons {j : Nat} {d : Did} {ds : List (Nat × Did)} (hd : d.mods = []) (h : Calm ds) : Calm ((j, d) :: ds) := fun p hp => by
  rcases List.mem_cons.1 hp with rfl | hp
  · exact hd
  · exact h p hp

theorem Calm.ok {ds : List (Nat × Did)} (h : Calm ds) (bits : Nat) (view : Tree) {d : Did} (hd : d.mods = []) (hk : d.kind ≠ 2) : drawOk bits ds view d = true := by
  unfold drawOk
  have h1 : (ds.all fun p => bits.testBit p.1 || okPair p.2 d) = true := List.all_eq_true.2 fun p hp => by simp [okPair, okOne, h p hp, hd]
  have h2 : (d.kind != 2) = true := by simpa using hk
  simp [h1, h2, hd]

/-- An operation without memory. -/
theorem EndsDraw.still {v : Value} {fr1 : Fr} (hcalm : Calm ds) (hw : Region.wanted o (yieldedL ops fr.tmps) = true) (hk : kindOf o = 0) (hc : ∀ f args ts, o.op ≠ .call ⟨.value f, args, ts⟩)
    (hp : evPlain T fr.eval o.op ⟨.leaf, s.next, []⟩ = some (v, ⟨.leaf, s.next, []⟩)) (hf : fr.put o.dst v = fr1) (h : EndsDraw T ops bef (i + 1) os ((i, ⟨0, blkOf fr o, s.next, s.next, []⟩) :: ds) fr1 s Q) : EndsDraw T ops bef i (o :: os) ds fr s Q := by
  obtain ⟨k, fr', s', h1, h2⟩ := h
  refine ⟨k, fr', s', ?_, h2⟩
  unfold evDraw
  rw [if_pos hw]
  have e : evOp T (evCode T k) fr o = evPlain T fr.eval o.op := by
    unfold evOp
    split
    · rename_i f args ts hop; exact absurd hop (hc _ _ _)
    · rfl
  have e1 : drawOne T (evCode T k) (bef.getD i 0) ds fr o s = some ((v, ⟨0, blkOf fr o, s.next, s.next, []⟩), s) := by
    unfold drawOne
    have hv : viewOf 0 (blkOf fr o) (hiddenOf (bef.getD i 0) ds) s.t = .leaf := rfl
    have hok := hcalm.ok (bef.getD i 0) .leaf (d := ⟨0, blkOf fr o, s.next, s.next, []⟩) rfl (by simp)
    simp only [hv, e, hp, hk, outer, List.filter_nil, hok, if_true, Nat.sub_self, giveRange, giveBack, List.nil_append]
  simp only [bnd, e1, hf]; exact h1
/-- A read of a block that none before has laid. -/
theorem EndsDraw.load {v : Value} {fr1 : Fr} {N : Nat} (hcalm : Calm ds) (hw : Region.wanted o (yieldedL ops fr.tmps) = true) (hk : kindOf o = 2) (hc : ∀ f args ts, o.op ≠ .call ⟨.value f, args, ts⟩) (hb : blkOf fr o = N)
    (hh : ((hiddenOf (bef.getD i 0) ds).all fun p => decide (N < p.1) || decide (p.2 ≤ N)) = true)
    (hp : ∀ s0 : St, s0.t.get N = s.t.get N → evPlain T fr.eval o.op s0 = some (v, s0)) (hf : fr.put o.dst v = fr1) (h : EndsDraw T ops bef (i + 1) os ((i, ⟨2, N, s.next, s.next, []⟩) :: ds) fr1 s Q) : EndsDraw T ops bef i (o :: os) ds fr s Q := by
  obtain ⟨k, fr', s', h1, h2⟩ := h
  refine ⟨k, fr', s', ?_, h2⟩
  unfold evDraw
  rw [if_pos hw]
  have e : evOp T (evCode T k) fr o = evPlain T fr.eval o.op := by
    unfold evOp
    split
    · rename_i f args ts hop; exact absurd hop (hc _ _ _)
    · rfl
  have hv : viewOf 2 N (hiddenOf (bef.getD i 0) ds) s.t = Tree.leaf.set N (s.t.get N) := rfl
  have hp' := hp ⟨Tree.leaf.set N (s.t.get N), s.next, []⟩ (Tree.get_set_same _ _ _)
  have hok : drawOk (bef.getD i 0) ds (Tree.leaf.set N (s.t.get N)) ⟨2, N, s.next, s.next, []⟩ = true := by
    unfold drawOk
    have h3 : (ds.all fun p => (bef.getD i 0).testBit p.1 || okPair p.2 ⟨2, N, s.next, s.next, []⟩) = true := List.all_eq_true.2 fun p hp => by simp [okPair, okOne, hcalm p hp]
    simp only [h3, hh]
    simp
  have e1 : drawOne T (evCode T k) (bef.getD i 0) ds fr o s = some ((v, ⟨2, N, s.next, s.next, []⟩), s) := by
    unfold drawOne
    simp only [hk, hb, hv, e, hp', outer, List.filter_nil, hok, if_true, Nat.sub_self, giveRange, giveBack, List.nil_append]
  simp only [bnd, e1, hf]; exact h1

/-- A call by contract: those before are ordered with it, or have laid nothing. -/
theorem EndsDraw.call1 {f : Operand} {args : Array Operand} {ts : Array TypeId} {g : FuncId} {a c : Array Value} {as : List Value} {R : Value → St → Prop} (hcalm : Calm ds) (hw : Region.wanted o (yieldedL ops fr.tmps) = true) (ho : o.op = .call ⟨.value f, args, ts⟩)
    (hf : fr.eval f = .func (.func g) a c) (ha : a.toList ++ args.toList.map fr.eval ++ c.toList = as) (hh : hiddenOf (bef.getD i 0) ds = [])
    (hR : EndsCall T g as ⟨s.t, s.next, []⟩ fun v b => R v b ∧ Keep ⟨s.t, s.next, []⟩ b)
    (h : ∀ (v : Value) (b s1 : St), R v b → Keep s s1 → s1.next = b.next → (∀ N, N < b.next → s1.t.get N = b.t.get N) → EndsDraw T ops bef (i + 1) os ((i, ⟨3, blkOf fr o, s.next, b.next, []⟩) :: ds) (fr.put o.dst v) s1 Q) : EndsDraw T ops bef i (o :: os) ds fr s Q := by
  obtain ⟨k, v, b, h1, h2, hK⟩ := hR
  have kn := hK.next
  simp only at kn
  have hm : b.mods = [] := hK.mods
  have hget : ∀ N, N < b.next → (giveRange (b.next - s.next) s.next b.t s.t).get N = b.t.get N := fun N hN => by
    rw [giveRange_get]
    by_cases hx : s.next ≤ N ∧ N < s.next + (b.next - s.next)
    · rw [if_pos hx]
    · rw [if_neg hx]; exact (hK.old N (by simp only; omega)).symm
  obtain ⟨k2, fr', s', h3, h4⟩ := h v b ⟨giveRange (b.next - s.next) s.next b.t s.t, b.next, s.mods⟩ h2 ⟨kn, rfl, fun N hN => (hget N (by omega)).trans (hK.old N hN)⟩ rfl hget
  refine ⟨max k k2, fr', s', ?_, h4⟩
  unfold evDraw
  rw [if_pos hw]
  have hkind : kindOf o = 3 := by unfold kindOf; rw [ho]
  have e0 : evOp T (evCode T (max k k2)) fr o ⟨s.t, s.next, []⟩ = some (v, b) := by
    have : evOp T (evCode T k) fr o ⟨s.t, s.next, []⟩ = some (v, b) := by
      unfold evOp; rw [ho]; simp only [callValue, hf, ha]; exact h1
    exact Mle.evOp (evCode_le (Nat.le_max_left k k2)) fr o _ _ this
  have hv : viewOf 3 (blkOf fr o) [] s.t = s.t := rfl
  have hok := hcalm.ok (bef.getD i 0) s.t (d := ⟨3, blkOf fr o, s.next, b.next, []⟩) rfl (by simp)
  have e1 : drawOne T (evCode T (max k k2)) (bef.getD i 0) ds fr o s = some ((v, ⟨3, blkOf fr o, s.next, b.next, []⟩), ⟨giveRange (b.next - s.next) s.next b.t s.t, b.next, s.mods⟩) := by
    unfold drawOne
    simp only [hkind, hh, hv, e0, outer, hm, List.filter_nil, hok, if_true, giveBack, List.nil_append]
  simp only [bnd, e1]
  exact Mle.evDraw (evCode_le (Nat.le_max_right k k2)) ops bef os _ _ _ _ _ h3
end
section
variable {T : Tab} {cx : Ctx} {fr : Fr} {s : St}
theorem Ends.condT {x : Operand} {a b : Code} {Q : Ex → Fr → St → Prop} (hx : fr.eval x = .bool true) (h : Ends T cx a fr s Q) : Ends T cx (.cond x a b) fr s Q := Ends.cond hx (by simpa using h)
theorem Ends.condF {x : Operand} {a b : Code} {Q : Ex → Fr → St → Prop} (hx : fr.eval x = .bool false) (h : Ends T cx b fr s Q) : Ends T cx (.cond x a b) fr s Q := Ends.cond hx (by simpa using h)

def isExit : Ex → Bool
  | .exit _ => true
  | _ => false

theorem results_tmps {tmps : List Value} {s : St} : ∀ rs : List Tmp, results T tmps (rs.map ResultVar.tmp) s = some (rs.map (tmps.getD · undef), s)
  | [] => rfl
  | r :: rs => by
    simp only [List.map_cons, results, bnd, results_tmps rs]
    rfl

/-- A call of a function whose results are temporaries and that defers nothing. -/
theorem EndsCall.of1 {f : FuncId} {n : Nat} {body : Code} {rs : List Tmp} {args : List Value} {fr0 : Fr} {Q : Value → St → Prop} (hF : T.fn f = some ⟨n, body, rs.map ResultVar.tmp⟩) (h0 : (⟨args ++ List.replicate (n - args.length) undef, []⟩ : Fr) = fr0)
    (h : Ends T ⟨f, none⟩ body fr0 s fun e fr s1 => isExit e = false ∧ fr.defers = [] ∧ Q (valOf (rs.map (fr.tmps.getD · undef))) { s1 with mods := newMods s s1 ++ s.mods }) : EndsCall T f args s Q := by
  subst h0
  refine EndsCall.of hF (h.mono fun e fr s1 ⟨h1, h2, h3⟩ => ⟨_, s1, ?_, h3⟩)
  unfold finishCall
  cases e with
  | exit id => cases h1
  | normal => simp only [h2, takeDefers, bnd, results_tmps]; rfl
  | ret => simp only [h2, takeDefers, bnd, results_tmps]; rfl
end
end Go.Ev
