/-
  EV: the rules of a printed walk, fifth part: drawn regions that lay blocks and write.
-/
import Derived.Test.YtelpkdjibjddlaaEvText
set_option linter.unusedSimpArgs false
set_option linter.unusedVariables false
namespace Go.Ev
open Go Go.RowKit

/-- An append to a row whose end isn't known strikes its old name. -/
theorem append_all {α : Type} {c : α → List Value} {k : Nat} {el sT xT : TypeId} {b lo : Nat} {T : Tab} (A : AppOk T sT xT el k b) (hc : ∀ y, (c y).length = k) (h1 : ∀ y, ∀ v ∈ c y, oneCell v = true) {v xs v' : Value} {l ys : List α} {s s1 : St} (hl : OL c k el lo s.t s.next v l)
    (hx1 : lenOf xs = some ys.length) (hx2 : firstCells ys.length k xs s = some ((ys.map c).flatten, s)) (hb : (l.length + ys.length) * b ≤ 140737488355328) (hb2 : l.length + ys.length < 4611686018427387904)
    (h : Ev.append T [sT, xT] [v, xs] s = some (v', s1)) : ∀ M, Struck v M → M ∈ s1.mods := by
  intro M ⟨len, cap, e, hcap⟩
  obtain ⟨z, hz, hzk⟩ := A.zero
  have hall : (ys.map c).flatten.all oneCell = true := List.all_eq_true.2 fun w hw => by
    obtain ⟨q, hq, hw⟩ := List.mem_flatten.1 hw
    obtain ⟨y, _, rfl⟩ := List.mem_map.1 hq
    exact h1 y w hw
  have hfl : (ys.map c).flatten.length = ys.length * k := flat_len hc ys
  obtain ⟨_, hl2⟩ := hl
  rcases hl2 with ⟨_, a, h, _⟩ | ⟨N, hv, hr, hN⟩
  · rw [e] at h; cases h; exact absurd hcap (by decide)
  · rw [e] at hv
    cases hv
    subst e
    have e0 : Ev.append T [sT, xT] [.slice (some ⟨M, 0, none⟩) l.length (END + k), xs] s = appendOf T el (some ⟨M, 0, none⟩) l.length (END + k) xs s := by
      unfold Ev.append; simp only [A.und, A.arg]
    rw [e0] at h
    unfold appendOf at h
    simp only [bnd, lift, A.size, A.bytes, hz, hx1, hx2] at h
    rw [if_pos (by omega)] at h
    simp only [if_true] at h
    unfold appendEnd at h
    have hslice : Ev.slice (l.map c).flatten 0 (l.length * k) = some ((l.map c).flatten) := by
      unfold Ev.slice
      simp only [List.drop_zero]
      rw [List.take_of_length_le (by rw [flat_len hc]; exact Nat.le_refl _), if_pos (flat_len hc l)]
    simp only [bnd, rowOf, hr.get, hslice, lift] at h
    rw [if_pos ⟨trivial, A.pos, A.lt, by decide, Nat.zero_le _, hb, by simpa [END] using hb2, hall, hfl, hzk, Nat.zero_mod _⟩] at h
    have hd : delB M s = some ((), { s with t := s.t.set M none, mods := M :: s.mods }) := by unfold delB; rw [hr.get]
    simp only [bnd, hd, newB, ret] at h
    cases h
    exact List.mem_cons_self

section
variable {T : Tab} {fr : Fr} {s : St} {ops : Array Oper} {bef : List Nat} {i : Nat} {o : Oper} {os : List Oper} {ds : List (Nat × Did)} {Q : Fr → St → Prop}
/-- An operation of the third kind, ordered with all before it. -/
theorem EndsDraw.big {v : Value} {fr1 : Fr} {s1 : St} (hw : Region.wanted o (yieldedL ops fr.tmps) = true) (hk : kindOf o = 3) (hc : noCall o.op = true) (hb : blkOf fr o = 0) (hh : hiddenOf (bef.getD i 0) ds = []) (hpairs : (ds.all fun p => (bef.getD i 0).testBit p.1) = true)
    (hp : evPlain T fr.eval o.op ⟨s.t, s.next, []⟩ = some (v, s1)) (hm : ∀ N ∈ s1.mods, N < s.next ∧ (s.t.get N).isSome = true) (hn : s.next ≤ s1.next) (hold : ∀ M, M < s.next → M ∉ s1.mods → s1.t.get M = s.t.get M) (hf : fr.put o.dst v = fr1)
    (h : ∀ s2 : St, s2.next = s1.next → s2.mods = s1.mods ++ s.mods → (∀ M, M < s1.next → s2.t.get M = s1.t.get M) → EndsDraw T ops bef (i + 1) os ((i, ⟨3, 0, s.next, s1.next, s1.mods⟩) :: ds) fr1 s2 Q) : EndsDraw T ops bef i (o :: os) ds fr s Q := by
  have ho : outer s.next s1 = s1.mods := by
    unfold outer
    exact List.filter_eq_self.2 fun N hN => by simp [(hm N hN).1]
  obtain ⟨k, fr', s', h1, h2⟩ := h ⟨giveBack s1.mods s1.t (giveRange (s1.next - s.next) s.next s1.t s.t), s1.next, s1.mods ++ s.mods⟩ rfl rfl (fun M hM => by
    show (giveBack s1.mods s1.t (giveRange (s1.next - s.next) s.next s1.t s.t)).get M = _
    rw [giveBack_get, giveRange_get]
    by_cases h1 : M ∈ s1.mods
    · rw [if_pos h1]
    · rw [if_neg h1]
      by_cases h2 : s.next ≤ M ∧ M < s.next + (s1.next - s.next)
      · rw [if_pos h2]
      · rw [if_neg h2]; exact (hold M (by omega) h1).symm)
  refine ⟨k, fr', s', ?_, h2⟩
  unfold evDraw
  rw [if_pos hw]
  have e : evOp T (evCode T k) fr o = evPlain T fr.eval o.op := by
    unfold evOp
    split
    · rename_i f args ts hop; exact absurd hop (noCall_ne hc _ _ _)
    · rfl
  have hv : viewOf 3 0 [] s.t = s.t := rfl
  have hok : drawOk (bef.getD i 0) ds s.t ⟨3, 0, s.next, s1.next, s1.mods⟩ = true := by
    revert hpairs
    generalize bef.getD i 0 = bits
    intro hpairs
    have h3 : (ds.all fun p => bits.testBit p.1 || okPair p.2 ⟨3, 0, s.next, s1.next, s1.mods⟩) = true := List.all_eq_true.2 fun p hp => by
      have := List.all_eq_true.1 hpairs p hp; rw [this]; rfl
    have h4 : (s1.mods.all fun N => decide (N < s.next) && (s.t.get N).isSome) = true := List.all_eq_true.2 fun N hN => by simp [(hm N hN).1, (hm N hN).2]
    unfold drawOk
    rw [h3]; simp only [h4]; simp
  have e1 : drawOne T (evCode T k) (bef.getD i 0) ds fr o s = some ((v, ⟨3, 0, s.next, s1.next, s1.mods⟩), ⟨giveBack s1.mods s1.t (giveRange (s1.next - s.next) s.next s1.t s.t), s1.next, s1.mods ++ s.mods⟩) := by
    unfold drawOne
    simp only [hk, hb, hh, hv, e, hp, ho, hok, if_true]
  simp only [bnd, e1, hf]; exact h1
/-- A new block. -/
theorem EndsDraw.lay {v : Value} {fr1 : Fr} {el : TypeId} {vs : List Value} (hcalm : Calm ds) (hw : Region.wanted o (yieldedL ops fr.tmps) = true) (hk : kindOf o = 1) (hc : noCall o.op = true) (hb : blkOf fr o = 0)
    (hp : evPlain T fr.eval o.op ⟨.leaf, s.next, []⟩ = some (v, ⟨Tree.leaf.set s.next (some (.cells vs el 0)), s.next + 1, []⟩)) (hf : fr.put o.dst v = fr1)
    (h : ∀ s2 : St, s2.next = s.next + 1 → s2.mods = s.mods → s2.t.get s.next = some (.cells vs el 0) → (∀ M, M ≠ s.next → s2.t.get M = s.t.get M) → EndsDraw T ops bef (i + 1) os ((i, ⟨1, 0, s.next, s.next + 1, []⟩) :: ds) fr1 s2 Q) : EndsDraw T ops bef i (o :: os) ds fr s Q := by
  obtain ⟨k, fr', s', h1, h2⟩ := h ⟨giveRange 1 s.next (Tree.leaf.set s.next (some (.cells vs el 0))) s.t, s.next + 1, s.mods⟩ rfl rfl (by
    show (giveRange 1 s.next (Tree.leaf.set s.next (some (.cells vs el 0))) s.t).get s.next = _
    rw [giveRange_get, if_pos ⟨Nat.le_refl _, by omega⟩, Tree.get_set_same]) (fun M hM => by
    show (giveRange 1 s.next (Tree.leaf.set s.next (some (.cells vs el 0))) s.t).get M = _
    rw [giveRange_get, if_neg (by omega)])
  refine ⟨k, fr', s', ?_, h2⟩
  unfold evDraw
  rw [if_pos hw]
  have e : evOp T (evCode T k) fr o = evPlain T fr.eval o.op := by
    unfold evOp
    split
    · rename_i f args ts hop; exact absurd hop (noCall_ne hc _ _ _)
    · rfl
  have hv : viewOf 1 0 (hiddenOf (bef.getD i 0) ds) s.t = .leaf := rfl
  have hok := hcalm.ok (bef.getD i 0) .leaf (d := ⟨1, 0, s.next, s.next + 1, []⟩) rfl (by simp)
  have e1 : drawOne T (evCode T k) (bef.getD i 0) ds fr o s = some ((v, ⟨1, 0, s.next, s.next + 1, []⟩), ⟨giveRange 1 s.next (Tree.leaf.set s.next (some (.cells vs el 0))) s.t, s.next + 1, s.mods⟩) := by
    unfold drawOne
    simp only [hk, hb, hv, e, hp, outer, List.filter_nil, hok, if_true, giveBack, List.nil_append, Nat.add_sub_cancel_left]
  simp only [bnd, e1, hf]; exact h1
end

/-- As 'EndsD', and those so far stand ahead. -/
def EndsE (T : Tab) (ops : Array Oper) (bef : List Nat) (i : Nat) (os : List Oper) (L : List (Nat × Nat × Nat)) (fr : Fr) (s : St) (Q : Fr → St → Prop) : Prop :=
  ∀ ds, Calm ds → (∀ bits p, p ∈ hiddenOf bits ds → p ∈ hidL bits L) → (∀ p ∈ ds, p.1 < i) → EndsDraw T ops bef i os ds fr s Q
/-- Behind a write: what those so far have done is not asked. -/
def EndsF (T : Tab) (ops : Array Oper) (bef : List Nat) (i : Nat) (os : List Oper) (fr : Fr) (s : St) (Q : Fr → St → Prop) : Prop := ∀ ds, EndsDraw T ops bef i os ds fr s Q

section
variable {T : Tab} {cx : Ctx} {fr : Fr} {s s0 : St} {ops : Array Oper} {bef : List Nat} {i : Nat} {o : Oper} {os : List Oper} {L : List (Nat × Nat × Nat)} {Q : Fr → St → Prop}
theorem ahead {ds : List (Nat × Did)} {d : Did} (h : ∀ p ∈ ds, p.1 < i) : ∀ p ∈ (i, d) :: ds, p.1 < i + 1 := fun p hp => by
  rcases List.mem_cons.1 hp with rfl | hp
  · exact Nat.lt_succ_self _
  · exact Nat.lt_succ_of_lt (h p hp)
theorem Ends.drawE {id : Nat} {Q : Ex → Fr → St → Prop} (hb : befL [] ops.toList = bef) (h : EndsE T ops bef 0 ops.toList [] fr s fun fr s => Q .normal fr s) : Ends T cx (.region id ops true) fr s Q := by
  subst hb
  exact Ends.draw (h [] Calm.nil (fun _ _ h => h) fun _ h => by cases h)
theorem E.nil (h : Q fr s) : EndsE T ops bef i [] L fr s Q := fun _ _ _ _ => EndsDraw.nil h
theorem E.skip {fr1 : Fr} (hw : Region.wanted o (yieldedL ops fr.tmps) = false) (hf : fr.put o.dst undef = fr1) (h : EndsE T ops bef (i + 1) os L fr1 s Q) : EndsE T ops bef i (o :: os) L fr s Q := fun ds h1 h2 h3 => EndsDraw.skip1 hw hf (h ds h1 h2 fun p hp => Nat.lt_succ_of_lt (h3 p hp))
theorem E.op {v : Value} {fr1 : Fr} (hw : Region.wanted o (yieldedL ops fr.tmps) = true) (hp : evPlain T fr.eval o.op ⟨.leaf, s.next, []⟩ = some (v, ⟨.leaf, s.next, []⟩)) (hc : noCall o.op = true) (hk : kindOf o = 0) (hf : fr.put o.dst v = fr1)
    (h : EndsE T ops bef (i + 1) os L fr1 s Q) : EndsE T ops bef i (o :: os) L fr s Q := fun ds h1 h2 h3 => EndsDraw.still h1 hw hk (noCall_ne hc) hp hf (h _ (h1.cons rfl) (hid_same h2) (ahead h3))
theorem E.load {t : TypeId} {a : Operand} {N p : Nat} {v : Value} {fr1 : Fr} (hw : Region.wanted o (yieldedL ops fr.tmps) = true) (ho : o.op = .load t a) (hx : fr.eval a = .pointer (some ⟨N, p, none⟩)) (hh : ∀ q ∈ hidL (bef.getD i 0) L, N < q.1 ∨ q.2 ≤ N)
    (hp : ∀ s1 : St, s1.t.get N = s.t.get N → evPlain T fr.eval o.op s1 = some (v, s1)) (hf : fr.put o.dst v = fr1) (h : EndsE T ops bef (i + 1) os L fr1 s Q) : EndsE T ops bef i (o :: os) L fr s Q := fun ds h1 h2 h3 => by
  have hc : noCall o.op = true := by rw [ho]; rfl
  have hb : blkOf fr o = N := by unfold blkOf; rw [ho]; simp only [hx]
  have hk : kindOf o = 2 := by unfold kindOf; rw [ho]
  refine EndsDraw.load h1 hw hk (noCall_ne hc) hb (List.all_eq_true.2 fun q hq => ?_) hp hf (h _ (h1.cons rfl) (hid_same h2) (ahead h3))
  have := hh q (h2 _ q hq)
  simpa using this
theorem E.call {f : Operand} {args : Array Operand} {ts : Array TypeId} {g : FuncId} {ar : List Value} {X : Value} {fr1 : Fr} (hO : Own s0 s) (hw : Region.wanted o (yieldedL ops fr.tmps) = true) (ho : o.op = .call ⟨.value f, args, ts⟩)
    (hf : fr.eval f = .func (.func g) #[] #[]) (ha : args.toList.map fr.eval = ar) (hh : hidL (bef.getD i 0) L = []) (hR : EndsPure T g ar ⟨s.t, s.next, []⟩ fun v _ _ => v = X) (hp : fr.put o.dst X = fr1)
    (h : ∀ s1, Own s0 s1 → Own s s1 → EndsE T ops bef (i + 1) os ((i, s.next, s1.next) :: L) fr1 s1 Q) : EndsE T ops bef i (o :: os) L fr s Q := fun ds h1 h2 h3 => by
  subst hp
  have hn : hiddenOf (bef.getD i 0) ds = [] := List.eq_nil_iff_forall_not_mem.2 fun p hp => by
    have := h2 _ p hp
    rw [hh] at this; cases this
  refine EndsDraw.call1 h1 hw ho hf rfl hn (R := fun v _ => v = X) ?_ fun v b s1 hv hk hnx _ => ?_
  · refine EndsCall.mono (Q := fun v s' => Keep ⟨s.t, s.next, []⟩ s' ∧ v = X) (by simp only [List.nil_append, List.append_nil, ha]; exact hR) fun _ _ h => ⟨h.2, h.1⟩
  · subst hv
    rw [← hnx]
    exact h s1 (hO.trans hk.own) hk.own _ (h1.cons rfl) (hid_more h2) (ahead h3)
theorem E.newS {N : Nat} {vF : Nat → Value} {e : TypeId} {vs : List Value} {fr1 : Fr} (hO : Own s0 s) (hN : N = s.next) (hw : Region.wanted o (yieldedL ops fr.tmps) = true) (hk : kindOf o = 1)
    (hp : evPlain T fr.eval o.op ⟨.leaf, s.next, []⟩ = some (vF s.next, ⟨Tree.leaf.set s.next (some (.cells vs e 0)), s.next + 1, []⟩)) (hc : noCall o.op = true) (hb : blkOf fr o = 0) (hf : fr.put o.dst (vF N) = fr1)
    (h : ∀ s1 : St, Own s0 s1 → Own s s1 → Row s1.t s1.next N vs e 0 → s0.next ≤ N → EndsE T ops bef (i + 1) os ((i, s.next, s.next + 1) :: L) fr1 s1 Q) : EndsE T ops bef i (o :: os) L fr s Q := fun ds h1 h2 h3 => by
  subst hN
  refine EndsDraw.lay h1 hw hk hc hb hp hf fun s2 g1 g2 g3 g4 => ?_
  have hS : Own s s2 := ⟨by omega, ⟨[], g2, fun _ h => by cases h⟩, fun M hM => g4 M (Nat.ne_of_lt hM)⟩
  exact h s2 (hO.trans hS) hS ⟨g3, by omega⟩ hO.next _ (h1.cons rfl) (hid_more h2) (ahead h3)
theorem OL.same {α : Type} {c : α → List Value} {k : Nat} {el : TypeId} {lo : Nat} {v : Value} {l : List α} {t t' : Tree} {n n' : Nat} (h : OL c k el lo t n v l) (hn : n ≤ n') (hg : ∀ M, M < n → t'.get M = t.get M) : OL c k el lo t' n' v l := by
  obtain ⟨h1, h2⟩ := h
  rcases h2 with h | ⟨N, h2, h3, h4⟩
  · exact ⟨h1, .inl h⟩
  · exact ⟨h1, .inr ⟨N, h2, ⟨(hg N h3.lt).trans h3.get, Nat.lt_of_lt_of_le h3.lt hn⟩, h4⟩⟩
theorem Own.same {z s s2 : St} (h : Own z s) (hn : s2.next = s.next) (hm : s2.mods = s.mods) (hg : ∀ M, M < s.next → s2.t.get M = s.t.get M) : Own z s2 :=
  ⟨hn ▸ h.next, by obtain ⟨q, h1, h2⟩ := h.mods; exact ⟨q, hm.trans h1, fun N hN => hn ▸ h2 N hN⟩, fun N hN => (hg N (Nat.lt_of_lt_of_le hN h.next)).trans (h.old N hN)⟩
theorem OL.struck {α : Type} {c : α → List Value} {k : Nat} {el : TypeId} {lo : Nat} {v : Value} {l : List α} {t : Tree} {n : Nat} (h : OL c k el lo t n v l) {M : Nat} (hM : Struck v M) : M < n ∧ lo ≤ M ∧ (t.get M).isSome = true := by
  obtain ⟨len, cap, e, hcap⟩ := hM
  obtain ⟨_, h2⟩ := h
  rcases h2 with ⟨_, a, h, _⟩ | ⟨N, h, hr, hN⟩
  · rw [e] at h; cases h; exact absurd hcap (by decide)
  · rw [e] at h; cases h; exact ⟨hr.lt, hN, by rw [hr.get]; rfl⟩
/-- An append of one element that has just been laid, ordered with all before it. -/
theorem E.append {α : Type} {c : α → List Value} {k b : Nat} {el sT xT : TypeId} {l : List α} {x : α} {v : Value} {X e2 h2 : Nat} {z : St} {p q : Operand} {fF : Value → Fr} (A : AppOk T sT xT el k b) (hc : ∀ y, (c y).length = k) (h1 : ∀ y, ∀ v ∈ c y, oneCell v = true) (hO : Own s0 s) (hz : Own z s) (hl : OL c k el s0.next z.t z.next v l)
    (hX : Row s.t s.next X (c x) e2 h2) (hw : Region.wanted o (yieldedL ops fr.tmps) = true) (ho : o.op = .call ⟨.builtin .append, #[p, q], #[sT, xT]⟩) (hp : fr.eval p = v) (hq : fr.eval q = .slice (some ⟨X, 0, none⟩) 1 1) (hh : hidL (bef.getD i 0) L = []) (hbits : ∀ j, j < i → (bef.getD i 0).testBit j = true) (hb : (l.length + 1) * b ≤ 140737488355328) (hb2 : l.length + 1 < 4611686018427387904)
    (hf : ∀ v', fr.put o.dst v' = fF v')
    (h : ∀ v' s1, Own s0 s1 → s.next ≤ s1.next → (∀ M, z.next ≤ M → M < s.next → s1.t.get M = s.t.get M) → OL c k el s0.next s1.t s1.next v' (l ++ [x]) → EndsF T ops bef (i + 1) os (fF v') s1 Q) : EndsE T ops bef i (o :: os) L fr s Q := fun ds g1 g2 g3 => by
  have hc' : noCall o.op = true := by rw [ho]; rfl
  have hn : hiddenOf (bef.getD i 0) ds = [] := List.eq_nil_iff_forall_not_mem.2 fun p hp => by
    have := g2 _ p hp
    rw [hh] at this; cases this
  have hl' := hl.own hz
  have hX' : Row (⟨s.t, s.next, []⟩ : St).t s.next X (c x) e2 h2 := hX
  obtain ⟨v', s1, e1, e2', e3, ⟨m, e4, e4'⟩, e5⟩ := append_run (s := ⟨s.t, s.next, []⟩) A hc h1 hl' hO.next (xs := .slice (some ⟨X, 0, none⟩) 1 1) (ys := [x]) rfl (firstOne (hc x) hX') (by simpa using hb) (by simpa using hb2)
  have e4 : s1.mods = m := by rw [e4]; simp
  have e2' : s.next ≤ s1.next := e2'
  refine EndsDraw.big (v := v') (s1 := s1) hw (by unfold kindOf; rw [ho]) hc' (by unfold blkOf; rw [ho]) hn (List.all_eq_true.2 fun p hp => hbits _ (g3 p hp)) ?_ (fun N hN => ?_) e2' (fun M hM hne => ?_) (hf v') fun s2 k1 k2 k3 => ?_
  · rw [ho]
    show Ev.append T [sT, xT] [fr.eval p, fr.eval q] _ = _
    rw [hp, hq]; exact e1
  · have := hl'.struck (e4' N (e4 ▸ hN)); exact ⟨this.1, this.2.2⟩
  · by_cases hs : Struck v M
    · exact absurd (append_all (s := ⟨s.t, s.next, []⟩) A hc h1 hl' (ys := [x]) (xs := .slice (some ⟨X, 0, none⟩) 1 1) rfl (firstOne (hc x) hX') (by simpa using hb) (by simpa using hb2) e1 M hs) hne
    · exact e5 M hM hs
  · have e6 : ∀ M, M < s.next → ¬ Struck v M → s2.t.get M = s.t.get M := fun M hM hs => (k3 M (by omega)).trans (e5 M hM hs)
    have e7 : ∃ q, s2.mods = q ++ s.mods ∧ ∀ N ∈ q, Struck v N := ⟨s1.mods, k2, fun N hN => e4' N (e4 ▸ hN)⟩
    refine h v' s2 (Own.append hO hl' (Nat.le_refl _) (by omega) e7 e6) (by omega) (fun M hM hM2 => e6 M hM2 fun hs => ?_) (e3.same (by omega) k3) _
    have := (hl.struck hs).1; omega
theorem F.nil (h : Q fr s) : EndsF T ops bef i [] fr s Q := fun _ => EndsDraw.nil h
theorem F.op {v : Value} {fr1 : Fr} (hw : Region.wanted o (yieldedL ops fr.tmps) = true) (hp : evPlain T fr.eval o.op ⟨.leaf, s.next, []⟩ = some (v, ⟨.leaf, s.next, []⟩)) (hc : noCall o.op = true) (hk : kindOf o = 0) (hf : fr.put o.dst v = fr1)
    (h : EndsF T ops bef (i + 1) os fr1 s Q) : EndsF T ops bef i (o :: os) fr s Q := fun _ => EndsDraw.still0 hw hk hc hp hf (h _)
end
end Go.Ev
