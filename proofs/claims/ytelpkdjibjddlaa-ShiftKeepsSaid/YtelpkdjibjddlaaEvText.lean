/-
  EV: the rules of a printed walk, fourth part: texts, functions that write what was their caller's, Builders.
-/
import Derived.Test.YtelpkdjibjddlaaEvShift
set_option linter.unusedSimpArgs false
set_option linter.unusedVariables false
namespace Go.Ev
open Go Go.RowKit

/-- A part of a text. -/
def sub (x : ByteArray) (l h : Nat) : ByteArray := ⟨⟨((B x).drop l).take (h - l)⟩⟩
theorem B_sub (x : ByteArray) (l h : Nat) : B (sub x l h) = ((B x).drop l).take (h - l) := rfl
theorem sub_len {x : ByteArray} {l h : Nat} (h1 : l ≤ h) (h2 : h ≤ (B x).length) : (B (sub x l h)).length = h - l := by
  rw [B_sub, List.length_take, List.length_drop]; omega
theorem B_inj {x y : ByteArray} (h : B x = B y) : x = y := by
  obtain ⟨⟨x⟩⟩ := x
  obtain ⟨⟨y⟩⟩ := y
  have : x = y := h
  rw [this]

section
variable {T : Tab} {ρ : Operand → Value} {s : St}
theorem p_sub {ty : TypeId} {x lo hi : Operand} {t : ByteArray} {a b : Int} (hu : T.und ty = some .string) (hx : ρ x = .string t) (hlo : ρ lo = .int .i64 a) (hhi : ρ hi = .int .i64 b) (h0 : 0 ≤ a) (h1 : a ≤ b) (h2 : b ≤ ((B t).length : Int)) :
    evPlain T ρ (.slice ty x (some lo) (some hi) none) s = some (.string (sub t a.toNat b.toNat), s) := by
  unfold evPlain
  simp only [Option.isSome_none, Bool.false_and, Bool.false_eq_true, if_false, Option.map_some, Option.map_none, hx, hlo, hhi]
  unfold sliceOp
  simp only [hu, bound, if_pos h0, if_pos (Int.le_trans h0 h1)]
  rw [if_pos ⟨rfl, by omega, by show b.toNat ≤ (B t).length; omega⟩]
  rfl
theorem p_subTo {ty : TypeId} {x hi : Operand} {t : ByteArray} {b : Int} (hu : T.und ty = some .string) (hx : ρ x = .string t) (hhi : ρ hi = .int .i64 b) (h1 : 0 ≤ b) (h2 : b ≤ ((B t).length : Int)) :
    evPlain T ρ (.slice ty x none (some hi) none) s = some (.string (sub t 0 b.toNat), s) := by
  unfold evPlain
  simp only [Option.isSome_none, Bool.false_and, Bool.false_eq_true, if_false, Option.map_some, Option.map_none, hx, hhi]
  unfold sliceOp
  simp only [hu, bound, if_pos h1]
  rw [if_pos ⟨rfl, Nat.zero_le _, by show b.toNat ≤ (B t).length; omega⟩]
  rfl
theorem p_subFrom {ty : TypeId} {x lo : Operand} {t : ByteArray} {a : Int} (hu : T.und ty = some .string) (hx : ρ x = .string t) (hlo : ρ lo = .int .i64 a) (h0 : 0 ≤ a) (h2 : a ≤ ((B t).length : Int)) :
    evPlain T ρ (.slice ty x (some lo) none none) s = some (.string (sub t a.toNat (B t).length), s) := by
  unfold evPlain
  simp only [Option.isSome_none, Bool.false_and, Bool.false_eq_true, if_false, Option.map_some, Option.map_none, hx, hlo]
  unfold sliceOp
  simp only [hu, bound, if_pos h0]
  rw [if_pos ⟨rfl, by show a.toNat ≤ (B t).length; omega, Nat.le_refl _⟩]
  rfl
end

/-! Functions that write what their caller has laid. -/
theorem Own.trim {s0 s s1 : St} (h0 : Own s0 s) (h : Own s0 s1) (hx : s.next ≤ s1.next) : Own s0 { s1 with mods := Ev.newMods s s1 ++ s.mods } := by
  obtain ⟨q, h1, h2⟩ := h.mods
  obtain ⟨p, h3, h4⟩ := h0.mods
  refine ⟨h.next, ⟨Ev.newMods s s1 ++ p, by simp only [h3, List.append_assoc], fun N hN => ?_⟩, h.old⟩
  rcases List.mem_append.1 hN with hN | hN
  · unfold Ev.newMods at hN
    obtain ⟨hN, _⟩ := List.mem_filter.1 hN
    rw [h1, h3, List.length_append, List.length_append, List.take_append_of_le_length (by omega)] at hN
    exact h2 N (List.mem_of_mem_take hN)
  · have := h4 N hN; simp only; omega

/-- A call of a function that writes nothing of what lay before 's0': what it gives. -/
def EndsOn (T : Tab) (f : FuncId) (args : List Value) (s0 s : St) (R : Value → Tree → Nat → Prop) : Prop := EndsCall T f args s fun v s' => Own s0 s' ∧ s.next ≤ s'.next ∧ R v s'.t s'.next
def FinOn (s0 s : St) (rs : List Tmp) (R : Value → Tree → Nat → Prop) (e : Ex) (fr : Fr) (s1 : St) : Prop := isExit e = false ∧ fr.defers = [] ∧ (Own s0 s1 ∧ s.next ≤ s1.next) ∧ R (valOf (rs.map (fr.tmps.getD · undef))) s1.t s1.next

section
variable {T : Tab} {fr : Fr} {s s0 : St} {ops : Array Oper} {o : Oper} {os : List Oper} {Q : Fr → St → Prop}
theorem EndsOn.of {f : FuncId} {n : Nat} {body : Code} {rs : List Tmp} {args : List Value} {fr0 : Fr} {R : Value → Tree → Nat → Prop} (hF : T.fn f = some ⟨n, body, rs.map ResultVar.tmp⟩) (h0 : (⟨args ++ List.replicate (n - args.length) undef, []⟩ : Fr) = fr0) (hO : Own s0 s)
    (h : Ends T ⟨f, none⟩ body fr0 s (FinOn s0 s rs R)) : EndsOn T f args s0 s R :=
  EndsCall.of1 hF h0 (h.mono fun e fr s1 ⟨h1, h2, h3, h4⟩ => ⟨h1, h2, hO.trim h3.1 h3.2, h3.2, h4⟩)
theorem EndsOn.mono {f : FuncId} {args : List Value} {R R' : Value → Tree → Nat → Prop} (h : EndsOn T f args s0 s R) (hr : ∀ v t n, R v t n → R' v t n) : EndsOn T f args s0 s R' := EndsCall.mono h fun _ _ ⟨h1, h2, h3⟩ => ⟨h1, h2, hr _ _ _ h3⟩
/-- A call of such a function. -/
theorem W.callOn {f : Operand} {args : Array Operand} {ts : Array TypeId} {g : FuncId} {ar : List Value} {R : Value → Tree → Nat → Prop} {fF : Value → Fr} (hw : Region.wanted o (yieldedL ops fr.tmps) = true) (ho : o.op = .call ⟨.value f, args, ts⟩)
    (hf : fr.eval f = .func (.func g) #[] #[]) (ha : args.toList.map fr.eval = ar) (hR : EndsOn T g ar s0 s R) (hp : ∀ v, fr.put o.dst v = fF v) (h : ∀ v s1, R v s1.t s1.next → Own s0 s1 → s.next ≤ s1.next → EndsOps T ops os (fF v) s1 Q) : EndsOps T ops (o :: os) fr s Q := by
  refine EndsOps.call1 hw ho hf rfl (R := fun v s' => Own s0 s' ∧ s.next ≤ s'.next ∧ R v s'.t s'.next) ?_ fun v s1 ⟨hk, hn, hv⟩ => by rw [hp]; exact h v s1 hv hk hn
  simp only [List.nil_append, List.append_nil, ha]; exact hR
end

/-! Bytes. -/
def byteCell (b : UInt8) : List Value := [.int .u8 b.toNat]
theorem byteOne : ∀ y : UInt8, ∀ v ∈ byteCell y, oneCell v = true := by intro y v hv; simp [byteCell] at hv; subst hv; rfl
theorem byteVals_flat (l : List UInt8) : byteVals l = (l.map byteCell).flatten := by
  unfold byteVals
  induction l with
  | nil => rfl
  | cons a r ih => simp only [List.map_cons, List.flatten_cons, ih]; rfl
theorem bytesOf_flat : ∀ l : List UInt8, bytesOf ((l.map byteCell).flatten) = some l
  | [] => rfl
  | b :: r => by
    show (bytesOf ((r.map byteCell).flatten)).map (UInt8.ofNat (Int.toNat (b.toNat : Int)) :: ·) = _
    rw [bytesOf_flat r]; simp
/-- The rows of all other types stay. -/
def Oth (X : TypeId → Bool) (s s' : St) : Prop := ∀ M vs e hi, Row s.t s.next M vs e hi → X e = false → Row s'.t s'.next M vs e hi
theorem Oth.refl (X : TypeId → Bool) (s : St) : Oth X s s := fun _ _ _ _ h _ => h
theorem Oth.trans {X : TypeId → Bool} {a b c : St} (h : Oth X a b) (k : Oth X b c) : Oth X a c := fun M vs e hi r hx => k M vs e hi (h M vs e hi r hx) hx
theorem Oth.own {X : TypeId → Bool} {a b c : St} (h : Oth X a b) (k : Own b c) : Oth X a c := fun M vs e hi r hx => (h M vs e hi r hx).own k
theorem Row.ne {t : Tree} {n N M e e' hi hi' : Nat} {vs vs' : List Value} (r : Row t n N vs e hi) (r' : Row t n M vs' e' hi') (h : e ≠ e') : N ≠ M := by
  intro hN; subst hN; have := r.get.symm.trans r'.get; cases this; exact h rfl
theorem Oth.upd {X : TypeId → Bool} {a b c : St} {N e hi : Nat} {vs : List Value} (h : Oth X a b) (r : Row b.t b.next N vs e hi) (hX : X e = true) (hn : c.next = b.next) (hu : ∀ M, M ≠ N → c.t.get M = b.t.get M) : Oth X a c := fun M vs' e' hi' r' hx => by
  have h1 := h M vs' e' hi' r' hx
  exact h1.upd hn hu (h1.ne r (fun he => by subst he; rw [hX] at hx; cases hx))

section
variable {T : Tab} {fr : Fr} {s s0 : St} {ops : Array Oper} {o : Oper} {os : List Oper} {Q : Fr → St → Prop}
/-- A function without a Go body that gives its argument back. -/
theorem endsExt {f : FuncId} {g : List Value → Option Value} {x y : Value} (hf : T.fn f = none) (hg : T.ext f = some g) (h : g [x] = some y) : EndsPure T f [x] s fun v _ _ => v = y := by
  refine ⟨0, y, s, ?_, Keep.refl s, rfl⟩
  unfold evCall enter
  simp only [hf, hg, lift, h]
theorem p_toU {ρ : Operand → Value} {a b t e hi n k N p : Nat} {vs : List Value} {x : Operand} (ha : T.und a = some (.pointer t)) (hb : T.und b = some .unsafePointer) (hs : T.size t = some (k + 1)) (hx : ρ x = .pointer (some ⟨N, p, none⟩)) (r : Row s.t n N vs e hi) (hp : p < vs.length) :
    evPlain T ρ (.convert a b x) s = some (.pointer (some ⟨N, p, none⟩), s) := by
  unfold evPlain
  simp only [hx, convert, ha, hb, convertD, toUnsafe, hs, bnd, rowOf, r.get, if_pos hp, ret]
theorem p_fromU {ρ : Operand → Value} {a b t hi n k N : Nat} {vs : List Value} {x : Operand} (ha : T.und a = some .unsafePointer) (hb : T.und b = some (.pointer t)) (hs : T.size t = some (k + 1)) (hx : ρ x = .pointer (some ⟨N, 0, none⟩)) (r : Row s.t n N vs t hi) (hh : hi < END) (hp : k < vs.length) :
    evPlain T ρ (.convert a b x) s = some (.pointer (some ⟨N, 0, none⟩), s) := by
  unfold evPlain
  simp only [hx, convert, ha, hb, convertD, fromUnsafe, hs, bnd, rowOf, r.get]
  rw [if_pos ⟨trivial, hh, Nat.zero_mod _, by omega⟩]; rfl
/-- An append of a text's bytes. -/
theorem W.appendStr {X : TypeId → Bool} {b : Nat} {el sT xT : TypeId} {l : List UInt8} {x : ByteArray} {v : Value} {p q : Operand} {fF : Value → Fr} (A : AppOk T sT xT el 1 b) (hO : Own s0 s) (hX : X el = true) (hl : OL byteCell 1 el s0.next s.t s.next v l) (hv : l = [] → v = .slice none 0 0)
    (hw : Region.wanted o (yieldedL ops fr.tmps) = true) (ho : o.op = .call ⟨.builtin .append, #[p, q], #[sT, xT]⟩) (hp : fr.eval p = v) (hq : fr.eval q = .string x) (hb : (l.length + (Ev.B x).length) * b ≤ 140737488355328)
    (hf : ∀ v', fr.put o.dst v' = fF v')
    (h : ∀ v' s1, Own s0 s1 → s.next ≤ s1.next → Oth X s s1 → OL byteCell 1 el s0.next s1.t s1.next v' (l ++ Ev.B x) → (l ++ Ev.B x = [] → v' = .slice none 0 0) → EndsOps T ops os (fF v') s1 Q) (hb0 : 0 < b) : EndsOps T ops (o :: os) fr s Q := by
  have hc' : noCall o.op = true := by rw [ho]; rfl
  have hbb : l.length + (Ev.B x).length ≤ 140737488355328 := Nat.le_trans (Nat.le_mul_of_pos_right _ hb0) hb
  have hfc : firstCells (Ev.B x).length 1 (.string x) s = some (((Ev.B x).map byteCell).flatten, s) := by
    unfold firstCells
    simp only [ret]
    rw [show x.data.toList.take (Ev.B x).length = Ev.B x from List.take_length, byteVals_flat]
  obtain ⟨v', s1, e1, e2', e3, e4, e5⟩ := append_run A (fun _ => rfl) byteOne hl hO.next (xs := .string x) (ys := Ev.B x) rfl hfc hb (by omega)
  have hnil : l ++ Ev.B x = [] → v' = .slice none 0 0 := fun h0 => by
    obtain ⟨h1, h2⟩ := List.append_eq_nil_iff.1 h0
    have hv0 := hv h1
    subst hv0
    obtain ⟨z, hz, _⟩ := A.zero
    have e6 : Ev.append T [sT, xT] [.slice none 0 0, .string x] s = some (.slice none 0 0, s) := by
      unfold Ev.append
      simp only [A.und, A.arg]
      unfold appendOf
      have hl0 : x.data.toList.length = 0 := by have : (Ev.B x).length = 0 := by rw [h2]; rfl
                                                exact this
      simp only [bnd, lift, A.size, A.bytes, hz, lenOf, hl0, firstCells, ret]
      rw [if_neg (by decide), if_pos (by decide)]
      rfl
    rw [e6] at e1; cases e1; rfl
  refine EndsOps.plain1 hw (v := v') (s1 := s1) ?_ (noCall_ne hc') (hf v') (h v' s1 (Own.append hO hl (Nat.le_refl _) e2' e4 e5) e2' (fun M vs e hi r hx => ⟨(e5 M r.lt fun ⟨len, cap, he, hcap⟩ => ?_).trans r.get, Nat.lt_of_lt_of_le r.lt e2'⟩) e3 hnil)
  · rw [ho]
    show Ev.append T [sT, xT] [fr.eval p, fr.eval q] s = _
    rw [hp, hq]; exact e1
  · obtain ⟨_, hl2⟩ := hl
    rcases hl2 with ⟨_, a, h, _⟩ | ⟨N, h, hr, hN⟩
    · rw [he] at h; cases h; exact absurd hcap (by decide)
    · rw [he] at h; cases h
      have := r.get.symm.trans hr.get
      cases this; rw [hX] at hx; cases hx
end

theorem OL.oth {α : Type} {c : α → List Value} {k : Nat} {el : TypeId} {lo : Nat} {v : Value} {l : List α} {X : TypeId → Bool} {s s' : St} (h : OL c k el lo s.t s.next v l) (w : Oth X s s') (hX : X el = false) : OL c k el lo s'.t s'.next v l := by
  obtain ⟨h1, h2⟩ := h
  rcases h2 with h | ⟨N, h2, h3, h4⟩
  · exact ⟨h1, .inl h⟩
  · exact ⟨h1, .inr ⟨N, h2, w _ _ _ _ h3 hX, h4⟩⟩

/-! Builders. -/
/-- A Builder at this name that has these bytes; its own type, its bytes' type. -/
def Bd (bT uT lo : Nat) (t : Tree) (n : Nat) (N : Nat) (x : List UInt8) : Prop :=
  lo ≤ N ∧ ∃ p v, Row t n N [p, v] bT 0 ∧ (p = .pointer none ∨ p = .pointer (some ⟨N, 0, none⟩)) ∧ OL byteCell 1 uT lo t n v x ∧ (x = [] → v = .slice none 0 0)

theorem Oth.weak {X Y : TypeId → Bool} {s s' : St} (h : Oth X s s') (hw : ∀ e, Y e = false → X e = false) : Oth Y s s' := fun M vs e hi r hx => h M vs e hi r (hw e hx)

section
variable {T : Tab} {fr : Fr} {s : St} {ops : Array Oper} {bef : List Nat} {i : Nat} {o : Oper} {os : List Oper} {ds : List (Nat × Did)} {Q : Fr → St → Prop}
/-- An operation without memory, whatever those before have done. -/
theorem EndsDraw.still0 {v : Value} {fr1 : Fr} (hw : Region.wanted o (yieldedL ops fr.tmps) = true) (hk : kindOf o = 0) (hc : noCall o.op = true)
    (hp : evPlain T fr.eval o.op ⟨.leaf, s.next, []⟩ = some (v, ⟨.leaf, s.next, []⟩)) (hf : fr.put o.dst v = fr1) (h : EndsDraw T ops bef (i + 1) os ((i, ⟨0, blkOf fr o, s.next, s.next, []⟩) :: ds) fr1 s Q) : EndsDraw T ops bef i (o :: os) ds fr s Q := by
  obtain ⟨k, fr', s', h1, h2⟩ := h
  refine ⟨k, fr', s', ?_, h2⟩
  unfold evDraw
  rw [if_pos hw]
  have e : evOp T (evCode T k) fr o = evPlain T fr.eval o.op := by
    unfold evOp
    split
    · rename_i f args ts hop; exact absurd hop (noCall_ne hc _ _ _)
    · rfl
  have hok : drawOk (bef.getD i 0) ds .leaf ⟨0, blkOf fr o, s.next, s.next, []⟩ = true := by
    generalize bef.getD i 0 = bits
    have h3 : (ds.all fun p => bits.testBit p.1 || okPair p.2 ⟨0, blkOf fr o, s.next, s.next, []⟩) = true := List.all_eq_true.2 fun p hp => by simp [okPair, okOne]
    unfold drawOk
    rw [h3]; simp
  have e1 : drawOne T (evCode T k) (bef.getD i 0) ds fr o s = some ((v, ⟨0, blkOf fr o, s.next, s.next, []⟩), s) := by
    unfold drawOne
    have hv : viewOf 0 (blkOf fr o) (hiddenOf (bef.getD i 0) ds) s.t = .leaf := rfl
    simp only [hv, e, hp, hk, outer, List.filter_nil, hok, if_true, Nat.sub_self, giveRange, giveBack, List.nil_append]
  simp only [bnd, e1, hf]; exact h1
/-- An operation of the third kind that writes nothing. -/
theorem EndsDraw.write0 {v : Value} {fr1 : Fr} (hw : Region.wanted o (yieldedL ops fr.tmps) = true) (hk : kindOf o = 3) (hc : noCall o.op = true) (hb : blkOf fr o = 0) (hh : hiddenOf (bef.getD i 0) ds = []) (hpairs : (ds.all fun p => (bef.getD i 0).testBit p.1) = true)
    (hp : evPlain T fr.eval o.op ⟨s.t, s.next, []⟩ = some (v, ⟨s.t, s.next, []⟩)) (hf : fr.put o.dst v = fr1) (h : EndsDraw T ops bef (i + 1) os ((i, ⟨3, 0, s.next, s.next, []⟩) :: ds) fr1 s Q) : EndsDraw T ops bef i (o :: os) ds fr s Q := by
  obtain ⟨k, fr', s', h1, h2⟩ := h
  refine ⟨k, fr', s', ?_, h2⟩
  unfold evDraw
  rw [if_pos hw]
  have e : evOp T (evCode T k) fr o = evPlain T fr.eval o.op := by
    unfold evOp
    split
    · rename_i f args ts hop; exact absurd hop (noCall_ne hc _ _ _)
    · rfl
  have hv : viewOf 3 0 [] s.t = s.t := rfl
  have hok : drawOk (bef.getD i 0) ds s.t ⟨3, 0, s.next, s.next, []⟩ = true := by
    revert hpairs
    generalize bef.getD i 0 = bits
    intro hpairs
    have h3 : (ds.all fun p => bits.testBit p.1 || okPair p.2 ⟨3, 0, s.next, s.next, []⟩) = true := List.all_eq_true.2 fun p hp => by
      have := List.all_eq_true.1 hpairs p hp; rw [this]; rfl
    unfold drawOk
    rw [h3]; simp
  have e1 : drawOne T (evCode T k) (bef.getD i 0) ds fr o s = some ((v, ⟨3, 0, s.next, s.next, []⟩), s) := by
    unfold drawOne
    simp only [hk, hb, hh, hv, e, hp, outer, List.filter_nil, hok, if_true, Nat.sub_self, giveRange, giveBack, List.nil_append]
  simp only [bnd, e1, hf]; exact h1
/-- An operation that writes one block that lay there before, ordered with all before it. -/
theorem EndsDraw.write {v : Value} {fr1 : Fr} {N : Nat} {b : Blk} (hw : Region.wanted o (yieldedL ops fr.tmps) = true) (hk : kindOf o = 3) (hc : noCall o.op = true) (hb : blkOf fr o = 0) (hh : hiddenOf (bef.getD i 0) ds = []) (hpairs : (ds.all fun p => (bef.getD i 0).testBit p.1) = true)
    (hp : evPlain T fr.eval o.op ⟨s.t, s.next, []⟩ = some (v, ⟨s.t.set N (some b), s.next, [N]⟩)) (hN : N < s.next) (hs : (s.t.get N).isSome = true) (hf : fr.put o.dst v = fr1)
    (h : ∀ s1 : St, s1.next = s.next → s1.mods = N :: s.mods → s1.t.get N = some b → (∀ M, M ≠ N → s1.t.get M = s.t.get M) → EndsDraw T ops bef (i + 1) os ((i, ⟨3, 0, s.next, s.next, [N]⟩) :: ds) fr1 s1 Q) : EndsDraw T ops bef i (o :: os) ds fr s Q := by
  have ho : outer s.next ⟨s.t.set N (some b), s.next, [N]⟩ = [N] := by
    unfold outer; simp [hN]
  obtain ⟨k, fr', s', h1, h2⟩ := h ⟨giveBack [N] (s.t.set N (some b)) s.t, s.next, N :: s.mods⟩ rfl rfl (by
      show (s.t.set N ((s.t.set N (some b)).get N)).get N = _
      rw [Tree.get_set_same, Tree.get_set_same]) (fun M hM => by
      show (s.t.set N ((s.t.set N (some b)).get N)).get M = _
      rw [Tree.get_set_ne _ _ hM])
  refine ⟨k, fr', s', ?_, h2⟩
  unfold evDraw
  rw [if_pos hw]
  have e : evOp T (evCode T k) fr o = evPlain T fr.eval o.op := by
    unfold evOp
    split
    · rename_i f args ts hop; exact absurd hop (noCall_ne hc _ _ _)
    · rfl
  have hv : viewOf 3 0 [] s.t = s.t := rfl
  have hok : drawOk (bef.getD i 0) ds s.t ⟨3, 0, s.next, s.next, [N]⟩ = true := by
    revert hpairs
    generalize bef.getD i 0 = bits
    intro hpairs
    have h3 : (ds.all fun p => bits.testBit p.1 || okPair p.2 ⟨3, 0, s.next, s.next, [N]⟩) = true := List.all_eq_true.2 fun p hp => by
      have := List.all_eq_true.1 hpairs p hp; rw [this]; rfl
    unfold drawOk
    rw [h3]; simp [hN, hs]
  have e1 : drawOne T (evCode T k) (bef.getD i 0) ds fr o s = some ((v, ⟨3, 0, s.next, s.next, [N]⟩), ⟨giveBack [N] (s.t.set N (some b)) s.t, s.next, N :: s.mods⟩) := by
    unfold drawOne
    simp only [hk, hb, hh, hv, e, hp, ho, hok, if_true, Nat.sub_self, giveRange, List.cons_append, List.nil_append]
  simp only [bnd, e1, hf]; exact h1
end
end Go.Ev
