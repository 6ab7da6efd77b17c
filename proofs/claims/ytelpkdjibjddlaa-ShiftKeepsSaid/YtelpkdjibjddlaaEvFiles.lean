/-
  EV: the layer files: rules for texts that are ranged over, copies of lists, functions with what they have caught; what the functions compute, in plain Lean.
-/
import Derived.Test.YtelpkdjibjddlaaEvApply
import Derived.Laws.RangeAny
import Derived.Laws.RangeString
set_option linter.unusedSimpArgs false
set_option linter.unusedVariables false
namespace Go.Ev
open Go Go.RowKit

/-- Another object of the heap. -/
structure Ob (t : Tree) (n N : Nat) (o : Obj) : Prop where
  get : t.get N = some (.obj o)
  lt : N < n
theorem Ob.own {s s' : St} {N : Nat} {o : Obj} (r : Ob s.t s.next N o) (h : Own s s') : Ob s'.t s'.next N o := ⟨(h.old N r.lt).trans r.get, Nat.lt_of_lt_of_le r.lt h.next⟩

section
variable {T : Tab} {fr : Fr} {s s0 : St} {ops : Array Oper} {o : Oper} {os : List Oper} {Q : Fr → St → Prop}
theorem W.range {N : Nat} {ty : TypeId} {x : Operand} {t : ByteArray} {fr1 : Fr} (hO : Own s0 s) (hN : N = s.next) (hw : Region.wanted o (yieldedL ops fr.tmps) = true) (ho : o.op = .range ty x) (hu : T.und ty = some .string) (hx : fr.eval x = .string t) (hf : fr.put o.dst (.pointer (some ⟨N, 0, none⟩)) = fr1)
    (h : ∀ s1 : St, Own s0 s1 → Own s s1 → Ob s1.t s1.next N (.stringIter t 0) → s0.next ≤ N → EndsOps T ops os fr1 s1 Q) : EndsOps T ops (o :: os) fr s Q := by
  subst hN
  have hc : noCall o.op = true := by rw [ho]; rfl
  have hS : Own s { s with t := s.t.set s.next (some (.obj (.stringIter t 0))), next := s.next + 1 } := ⟨Nat.le_succ _, ⟨[], rfl, fun _ h => by cases h⟩, fun N hN => Tree.get_set_ne _ _ (Nat.ne_of_lt hN)⟩
  refine EndsOps.plain1 hw (s1 := { s with t := s.t.set s.next (some (.obj (.stringIter t 0))), next := s.next + 1 }) ?_ (noCall_ne hc) hf (h _ (hO.trans hS) hS ⟨Tree.get_set_same _ _ _, Nat.lt_succ_self _⟩ hO.next)
  rw [ho]
  unfold evPlain
  simp only [rangeOp, hu, hx, bnd, newB, ret]
theorem W.nextT {N pos : Nat} {x : Operand} {t : ByteArray} {fr1 : Fr} (hO : Own s0 s) (r : Ob s.t s.next N (.stringIter t pos)) (hN : s0.next ≤ N) (hw : Region.wanted o (yieldedL ops fr.tmps) = true) (ho : o.op = .next x true) (hx : fr.eval x = .pointer (some ⟨N, 0, none⟩)) (hp : pos < t.size)
    (hf : fr.put o.dst (.tuple ⟨[.bool true, .int .i64 ((pos : Nat) : Int), .int .i32 (((Utf8.decode t pos).1 : Nat) : Int)]⟩) = fr1)
    (h : ∀ s1 : St, Own s0 s1 → s1.next = s.next → (∀ M, M ≠ N → s1.t.get M = s.t.get M) → Ob s1.t s1.next N (.stringIter t (pos + (Utf8.decode t pos).2)) → EndsOps T ops os fr1 s1 Q) : EndsOps T ops (o :: os) fr s Q := by
  have hc : noCall o.op = true := by rw [ho]; rfl
  refine EndsOps.plain1 hw (s1 := { s with t := s.t.set N (some (.obj (.stringIter t (pos + (Utf8.decode t pos).2)))), mods := N :: s.mods }) ?_ (noCall_ne hc) hf (h _ (Own.store hO hN r.lt ⟨[N], rfl, fun M hM => by simpa using hM⟩ rfl fun M hM => Tree.get_set_ne _ _ hM) rfl (fun M hM => Tree.get_set_ne _ _ hM) ⟨Tree.get_set_same _ _ _, r.lt⟩)
  rw [ho]
  unfold evPlain
  simp only [nextOp, hx, r.get, if_pos hp, bnd, setB, ret]
  rfl
theorem W.nextF {N pos : Nat} {x : Operand} {t : ByteArray} {fr1 : Fr} (r : Ob s.t s.next N (.stringIter t pos)) (hw : Region.wanted o (yieldedL ops fr.tmps) = true) (ho : o.op = .next x true) (hx : fr.eval x = .pointer (some ⟨N, 0, none⟩)) (hp : ¬ pos < t.size)
    (hf : fr.put o.dst (.tuple ⟨[.bool false]⟩) = fr1) (h : EndsOps T ops os fr1 s Q) : EndsOps T ops (o :: os) fr s Q := by
  have hc : noCall o.op = true := by rw [ho]; rfl
  refine EndsOps.plain1 hw (s1 := s) ?_ (noCall_ne hc) hf h
  rw [ho]
  unfold evPlain
  simp only [nextOp, hx, r.get, if_neg hp]
/-- A call of a function that has caught values. -/
theorem W.callC {f : Operand} {args : Array Operand} {ts : Array TypeId} {g : FuncId} {c : Array Value} {ar : List Value} {X : Value} {fr1 : Fr} (hO : Own s0 s) (hw : Region.wanted o (yieldedL ops fr.tmps) = true) (ho : o.op = .call ⟨.value f, args, ts⟩)
    (hf : fr.eval f = .func (.func g) #[] c) (ha : args.toList.map fr.eval ++ c.toList = ar) (hR : EndsPure T g ar s fun v _ _ => v = X) (hp : fr.put o.dst X = fr1) (h : ∀ s1, Own s0 s1 → Own s s1 → EndsOps T ops os fr1 s1 Q) : EndsOps T ops (o :: os) fr s Q := by
  subst hp
  refine EndsOps.call1 hw ho hf rfl (R := fun v s' => Keep s s' ∧ v = X) ?_ fun v s1 ⟨hk, hv⟩ => by subst hv; exact h s1 (hO.trans hk.own) hk.own
  simp only [List.nil_append, ha]; exact hR
/-- A new slice. -/
theorem rep_len (n : Nat) (l : List Value) : (rep n l).length = n * l.length := by
  induction n with
  | zero => simp [rep]
  | succ n ih => simp only [rep, List.length_append, ih, Nat.succ_mul]; omega
theorem W.makeS {N n k b : Nat} {ty el : TypeId} {x y : Operand} {z : Value} {fr1 : Fr} (hO : Own s0 s) (hN : N = s.next) (hw : Region.wanted o (yieldedL ops fr.tmps) = true) (ho : o.op = .makeSlice ty x y) (hu : T.und ty = some (.slice el)) (hs : T.size el = some k) (hbt : T.bytes el = some b) (hz : T.zero el = some z) (hzk : (cellsOf z).length = k)
    (hx : fr.eval x = .int .i64 (n : Int)) (hy : fr.eval y = .int .i64 (n : Int)) (hn : n ≤ 1000000) (hb : b ≤ 1000) (hf : fr.put o.dst (.slice (some ⟨N, 0, none⟩) n n) = fr1)
    (h : ∀ s1 : St, Own s0 s1 → Own s s1 → (∃ vs, vs.length = n * k ∧ Row s1.t s1.next N vs el 0) → s0.next ≤ N → EndsOps T ops os fr1 s1 Q) : EndsOps T ops (o :: os) fr s Q := by
  subst hN
  have hc : noCall o.op = true := by rw [ho]; rfl
  have hS : Own s { s with t := s.t.set s.next (some (.cells (rep n (cellsOf z)) el 0)), next := s.next + 1 } := ⟨Nat.le_succ _, ⟨[], rfl, fun _ h => by cases h⟩, fun N hN => Tree.get_set_ne _ _ (Nat.ne_of_lt hN)⟩
  refine EndsOps.plain1 hw (v := .slice (some ⟨s.next, 0, none⟩) n n) (s1 := { s with t := s.t.set s.next (some (.cells (rep n (cellsOf z)) el 0)), next := s.next + 1 }) ?_ (noCall_ne hc) hf (h _ (hO.trans hS) hS ⟨_, by rw [rep_len, hzk], Tree.get_set_same _ _ _, Nat.lt_succ_self _⟩ hO.next)
  rw [ho]
  unfold evPlain
  have hzs : zeros T el n = some (rep n (cellsOf z)) := by
    unfold zeros; simp only [hz, hs]; rw [if_pos hzk]
  have hbn : b * n ≤ 1000 * 1000000 := Nat.mul_le_mul hb hn
  simp only [makeSlice, hu, hx, hy, asInt, hbt, Int.toNat_natCast, hzs]
  rw [if_pos ⟨by omega, Int.le_refl _, by omega, by omega⟩]
  simp only [bnd, newB, ret]
theorem putAt_all : ∀ (vs m : List Value), m.length = vs.length → putAt vs 0 m = m
  | [], [], _ => rfl
  | [], _ :: _, h => by cases h
  | _ :: _, [], h => by cases h
  | a :: r, b :: q, h => by simp only [putAt]; rw [putAt_all r q (by simpa using h)]
/-- A whole list is copied into a slice of one's own. -/
theorem W.copyL {α : Type} {c : α → List Value} {k : Nat} {l : List α} {N M p e hi cap : Nat} {a : Option Addr} {vs ws : List Value} {el t1 t2 : TypeId} {x y : Operand} {fr1 : Fr} (hO : Own s0 s) (hN : s0.next ≤ N) (r : Row s.t s.next N ws el 0) (hwl : ws.length = l.length * k) (hk0 : 0 < k) (hc : ∀ y, (c y).length = k) (h1 : ∀ y, ∀ v ∈ c y, oneCell v = true)
    (hX : Sl c k s.t s.next a l M p vs e hi) (hcp : Cp k a l.length cap) (hw : Region.wanted o (yieldedL ops fr.tmps) = true) (ho : o.op = .call ⟨.builtin .copy, #[x, y], #[t1, t2]⟩) (hu : T.und t1 = some (.slice el)) (hs : T.size el = some k) (hx : fr.eval x = .slice (some ⟨N, 0, none⟩) l.length l.length) (hy : fr.eval y = .slice a l.length cap)
    (hf : fr.put o.dst (.int .i64 ((l.length : Nat) : Int)) = fr1)
    (h : ∀ s1 : St, Own s0 s1 → s.next ≤ s1.next → Sl c k s1.t s1.next (some ⟨N, 0, none⟩) l N 0 ((l.map c).flatten) el 0 → EndsOps T ops os fr1 s1 Q) : EndsOps T ops (o :: os) fr s Q := by
  have hc' : noCall o.op = true := by rw [ho]; rfl
  have hfc := firstSl hX hc hcp
  have hmin : Nat.min l.length l.length = l.length := Nat.min_self _
  have e0 : evPlain T fr.eval o.op s = (bnd (storeCells N 0 ((l.map c).flatten)) fun _ => ret (goInt l.length)) s := by
    rw [ho]
    show Ev.copy T [t1, t2] [fr.eval x, fr.eval y] s = _
    rw [hx, hy]
    unfold Ev.copy
    simp only [hu, lenOf, hs, hmin, bnd, hfc]
  by_cases hl : l = []
  · subst hl
    refine EndsOps.plain1 hw (v := goInt 0) (s1 := s) ?_ (noCall_ne hc') hf (h s hO (Nat.le_refl _) ⟨fun h => absurd rfl h, fun h => absurd rfl h, fun i x h => by simp at h, by simp⟩)
    rw [e0]; rfl
  · have hfl := flat_len hc l
    have hall : (l.map c).flatten.all oneCell = true := List.all_eq_true.2 fun w hw => by
      obtain ⟨q, hq, hw⟩ := List.mem_flatten.1 hw
      obtain ⟨y, _, rfl⟩ := List.mem_map.1 hq
      exact h1 y w hw
    have hsc : storeCells N 0 ((l.map c).flatten) s = some ((), { s with t := s.t.set N (some (.cells ((l.map c).flatten) el 0)), mods := N :: s.mods }) := by
      have hpos : 0 < l.length * k := Nat.mul_pos (List.length_pos_iff.2 hl) hk0
      cases hcs : (l.map c).flatten with
      | nil => rw [hcs] at hfl; simp only [List.length_nil] at hfl; omega
      | cons c0 cr =>
        unfold storeCells
        simp only [bnd, rowOf, r.get]
        rw [← hcs, if_pos ⟨by decide, Nat.zero_le _, by omega, hall⟩, putAt_all _ _ (by omega)]
        simp only [setB, r.get]
    refine EndsOps.plain1 hw (v := goInt l.length) (s1 := { s with t := s.t.set N (some (.cells ((l.map c).flatten) el 0)), mods := N :: s.mods }) ?_ (noCall_ne hc') hf (h _ (Own.store hO hN r.lt ⟨[N], rfl, fun M hM => by simpa using hM⟩ rfl fun M hM => Tree.get_set_ne _ _ hM) (Nat.le_refl _) ⟨fun _ => rfl, fun _ => ⟨Tree.get_set_same _ _ _, r.lt⟩, fun i y hy => by rw [Nat.zero_add]; exact flat_slice hc l i y hy, hX.small⟩)
    rw [e0]; simp only [bnd, hsc, ret]
end

theorem p_idxS {T : Tab} {ρ : Operand → Value} {s : St} {ty : TypeId} {x i : Operand} {t : ByteArray} {n : Nat} {b : UInt8} (hu : T.und ty = some .string) (hx : ρ x = .string t) (hi : ρ i = .int .i64 (n : Int)) (he : (B t)[n]? = some b) : evPlain T ρ (.index ty x i) s = some (.int .u8 ((b.toNat : Nat) : Int), s) := by
  unfold evPlain
  have he' : t.data.toList[n]? = some b := he
  simp only [hx, hi, index, hu]
  rw [if_pos (by omega), Int.toNat_natCast, he']; rfl
/-! What the functions compute. -/
structure Fl where
  nm : ByteArray
  tx : ByteArray
abbrev Fl.cells (f : Fl) : List Value := [.string f.nm, .string f.tx]
theorem Fl.one : ∀ y : Fl, ∀ v ∈ y.cells, oneCell v = true := by intro y v hv; simp at hv; rcases hv with rfl | rfl <;> rfl
structure Fl.Ok (f : Fl) : Prop where
  nm : (B f.nm).length ≤ 140737488351232
  tx : (B f.tx).length ≤ 140737488351232
/-- May a rune stand in a file's name? -/
abbrev PlainC (c : Int) : Prop := (97 ≤ c ∧ c ≤ 122) ∨ (65 ≤ c ∧ c ≤ 90) ∨ (48 ≤ c ∧ c ≤ 57) ∨ c = 46 ∨ c = 45 ∨ c = 95
abbrev PlainB (b : UInt8) : Prop := PlainC ((b.toNat : Nat) : Int)
def badS (x : ByteArray) : Int := match (B x).findIdx? (fun b => decide (¬ PlainB b)) with
  | some i => (i : Int)
  | none => -1
theorem badS_at {x : ByteArray} {i : Nat} {b : UInt8} (h : NoB (fun b => ¬ PlainB b) (B x) i) (he : (B x)[i]? = some b) (hp : ¬ PlainB b) : badS x = (i : Int) := by
  unfold badS; rw [h.idx_at he hp]
theorem badS_none {x : ByteArray} {i : Nat} (h : NoB (fun b => ¬ PlainB b) (B x) i) (hi : (B x).length ≤ i) : badS x = -1 := by
  unfold badS; rw [h.idx_none hi]
theorem dec_plain {x : ByteArray} {i : Nat} {b : UInt8} (he : (B x)[i]? = some b) (hc : PlainC (((Utf8.decode x i).1 : Nat) : Int)) : PlainB b ∧ (Utf8.decode x i).2 = 1 := by
  have hi : i < x.size := by
    have := (List.getElem?_eq_some_iff.1 he).1
    exact this
  have hb : x[i]'hi = b := by
    have := (List.getElem?_eq_some_iff.1 he).2
    exact this
  by_cases h : (x[i]'hi).toNat < 128
  · have hd := decode_ascii x i hi h
    rw [hd] at hc ⊢
    rw [hb] at hc
    exact ⟨hc, rfl⟩
  · have := (decode_high x i hi (by omega)).1
    exfalso
    unfold PlainC at hc
    omega
theorem dec_bad {x : ByteArray} {i : Nat} {b : UInt8} (he : (B x)[i]? = some b) (hc : ¬ PlainC (((Utf8.decode x i).1 : Nat) : Int)) : ¬ PlainB b := by
  have hi : i < x.size := (List.getElem?_eq_some_iff.1 he).1
  have hb : x[i]'hi = b := (List.getElem?_eq_some_iff.1 he).2
  intro hp
  have h : (x[i]'hi).toNat < 128 := by
    rw [hb]; unfold PlainB PlainC at hp; omega
  rw [decode_ascii x i hi h, hb] at hc
  exact hc hp
abbrev Titled (x : ByteArray) : Prop := ¬ B x = B ByteArray.empty ∧ (((B x).length : Nat) : Int) ≤ 40 ∧ ¬ 0 ≤ badS x
def placeS (l : List Fl) (x : ByteArray) : Int := match l.findIdx? (fun f => decide (B f.nm = B x)) with
  | some i => (i : Int)
  | none => -1
theorem place_at {l : List Fl} {x : ByteArray} {i : Nat} {f : Fl} (h : NoB (fun f => B f.nm = B x) l i) (he : l[i]? = some f) (hp : B f.nm = B x) : placeS l x = (i : Int) := by
  unfold placeS; rw [h.idx_at (p := fun f : Fl => B f.nm = B x) he hp]
theorem place_none {l : List Fl} {x : ByteArray} {i : Nat} (h : NoB (fun f => B f.nm = B x) l i) (hi : l.length ≤ i) : placeS l x = -1 := by
  unfold placeS; rw [h.idx_none (p := fun f : Fl => B f.nm = B x) hi]
theorem place_le {l : List Fl} {i : Nat} {f : Fl} (he : l[i]? = some f) : placeS l f.nm ≤ i := by
  unfold placeS
  split
  · rename_i j hj
    rw [List.findIdx?_eq_some_iff_getElem] at hj
    obtain ⟨h1, h2, h3⟩ := hj
    rcases Nat.lt_or_ge i j with h | h
    · exfalso
      obtain ⟨hi, rfl⟩ := List.getElem?_eq_some_iff.1 he
      have := h3 i h
      simp at this
    · omega
  · omega
/-- Is a workspace right? -/
def FR (l : List Fl) : Prop := ¬ l.length = 0 ∧ l.length ≤ 8 ∧ ∀ (k : Nat) (f : Fl), l[k]? = some f → Titled f.nm ∧ (((B f.tx).length : Nat) : Int) ≤ 4000 ∧ placeS l f.nm = k
noncomputable instance (l : List Fl) : Decidable (FR l) := Classical.propDecidable _
noncomputable instance (a b : List Fl) : Decidable (a = b) := Classical.propDecidable _
def sumF (l : List Fl) : Nat := (l.map fun f => (B f.nm).length + (B f.tx).length).sum
theorem sumF_step {l : List Fl} {i : Nat} {f : Fl} (he : l[i]? = some f) : sumF (l.take (i + 1)) = sumF (l.take i) + ((B f.nm).length + (B f.tx).length) := by
  unfold sumF; rw [List.take_add_one, he]; simp
theorem sumF_le (l : List Fl) (i : Nat) : sumF (l.take i) ≤ sumF l := by
  unfold sumF
  conv => rhs; rw [← List.take_append_drop i l]
  rw [List.map_append, List.sum_append]; omega
theorem sumF_all (l : List Fl) : sumF (l.take l.length) = sumF l := by rw [List.take_length]
abbrev LargeF (l : List Fl) : Prop := 21 < l.length ∨ 40000 < sumF l
def sizeF (l : List Fl) : Int := (l.map fun f => (((B f.tx).length : Nat) : Int)).sum
theorem sizeF_step {l : List Fl} {i : Nat} {f : Fl} (he : l[i]? = some f) : W (W (sizeF (l.take i)) + (((B f.tx).length : Nat) : Int)) = W (sizeF (l.take (i + 1))) := by
  unfold sizeF
  rw [List.take_add_one, he]
  simp only [List.map_append, List.sum_append, Option.toList_some, List.map_cons, List.map_nil, List.sum_cons, List.sum_nil, Int.add_zero, W_def]
  omega
theorem list_sameF {a b : List Fl} {i : Nat} (hl : a.length = b.length) (h : ∀ k, k < i → a[k]? = b[k]?) (hi : a.length ≤ i) : a = b := by
  refine List.ext_getElem? fun k => ?_
  by_cases hk : k < i
  · exact h k hk
  · rw [List.getElem?_eq_none (by omega), List.getElem?_eq_none (by omega)]
theorem same_stepF {a b : List Fl} {i : Nat} {x y : Fl} (h : ∀ k, k < i → a[k]? = b[k]?) (hx : a[i]? = some x) (hy : b[i]? = some y) (he : B x.nm = B y.nm ∧ B x.tx = B y.tx) : ∀ k, k < i + 1 → a[k]? = b[k]? := fun k hk => by
  by_cases hki : k = i
  · subst hki
    rw [hx, hy]
    obtain ⟨a1, a2⟩ := x
    obtain ⟨b1, b2⟩ := y
    have h1 := B_inj he.1
    have h2 := B_inj he.2
    simp only at h1 h2
    subst h1 h2; rfl
  · exact h k (by omega)
end Go.Ev
