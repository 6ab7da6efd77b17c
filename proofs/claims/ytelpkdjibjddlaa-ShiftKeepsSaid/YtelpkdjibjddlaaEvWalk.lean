/-
  EV: the rules of a printed walk, second part: rows of memory, what a function writes of its own, drawn regions by what they have laid.
-/
import Derived.Test.YtelpkdjibjddlaaEvRun
set_option linter.unusedSimpArgs false
set_option linter.unusedVariables false
namespace Go.Ev
open Go Go.RowKit

/-- A row of the heap, under a name that is taken. -/
structure Row (t : Tree) (n : Nat) (N : Nat) (vs : List Value) (e : TypeId) (hi : Nat) : Prop where
  get : t.get N = some (.cells vs e hi)
  lt : N < n

/-- What a function has done in the midst: it wrote what it had laid itself, no more. -/
structure Own (s s' : St) : Prop where
  next : s.next ≤ s'.next
  mods : ∃ l, s'.mods = l ++ s.mods ∧ ∀ N ∈ l, s.next ≤ N ∧ N < s'.next
  old : ∀ N, N < s.next → s'.t.get N = s.t.get N

theorem Own.refl (s : St) : Own s s := ⟨Nat.le_refl _, ⟨[], rfl, fun _ h => by cases h⟩, fun _ _ => rfl⟩
theorem Own.trans {a b c : St} (h : Own a b) (k : Own b c) : Own a c := by
  obtain ⟨l, h1, h2⟩ := h.mods
  obtain ⟨m, k1, k2⟩ := k.mods
  refine ⟨Nat.le_trans h.next k.next, ⟨m ++ l, by rw [k1, h1, List.append_assoc], fun N hN => ?_⟩, fun N hN => (k.old N (Nat.lt_of_lt_of_le hN h.next)).trans (h.old N hN)⟩
  rcases List.mem_append.1 hN with hN | hN
  · exact ⟨Nat.le_trans h.next (k2 N hN).1, (k2 N hN).2⟩
  · exact ⟨(h2 N hN).1, Nat.lt_of_lt_of_le (h2 N hN).2 k.next⟩
theorem Keep.own {s s' : St} (h : Keep s s') : Own s s' := ⟨h.next, ⟨[], h.mods, fun _ h => by cases h⟩, h.old⟩
theorem Row.own {s s' : St} {N e hi : Nat} {vs : List Value} (r : Row s.t s.next N vs e hi) (h : Own s s') : Row s'.t s'.next N vs e hi := ⟨(h.old N r.lt).trans r.get, Nat.lt_of_lt_of_le r.lt h.next⟩
theorem Own.newMods {s s' : St} (h : Own s s') : newMods s s' ++ s.mods = s.mods := by
  obtain ⟨l, h1, h2⟩ := h.mods
  have : Ev.newMods s s' = [] := by
    unfold Ev.newMods
    rw [h1, List.length_append, Nat.add_sub_cancel, List.take_left]
    refine List.filter_eq_nil_iff.2 fun N hN => ?_
    have := h2 N hN
    simp; omega
  rw [this]; rfl

/-- A call of a function that writes nothing of its caller's: what it gives. -/
def EndsPure (T : Tab) (f : FuncId) (args : List Value) (s : St) (R : Value → Tree → Nat → Prop) : Prop := EndsCall T f args s fun v s' => Keep s s' ∧ R v s'.t s'.next
theorem EndsPure.mono {T : Tab} {f : FuncId} {args : List Value} {s : St} {R R' : Value → Tree → Nat → Prop} (h : EndsPure T f args s R) (hr : ∀ v t n, R v t n → R' v t n) : EndsPure T f args s R' := EndsCall.mono h fun _ _ ⟨h1, h2⟩ => ⟨h1, hr _ _ _ h2⟩

def Fin (s : St) (rs : List Tmp) (R : Value → Tree → Nat → Prop) (e : Ex) (fr : Fr) (s1 : St) : Prop := isExit e = false ∧ fr.defers = [] ∧ Own s s1 ∧ R (valOf (rs.map (fr.tmps.getD · undef))) s1.t s1.next

section
variable {T : Tab} {cx : Ctx} {fr : Fr} {s : St}

theorem EndsPure.of {f : FuncId} {n : Nat} {body : Code} {rs : List Tmp} {args : List Value} {fr0 : Fr} {R : Value → Tree → Nat → Prop} (hF : T.fn f = some ⟨n, body, rs.map ResultVar.tmp⟩) (h0 : (⟨args ++ List.replicate (n - args.length) undef, []⟩ : Fr) = fr0)
    (h : Ends T ⟨f, none⟩ body fr0 s (Fin s rs R)) : EndsPure T f args s R :=
  EndsCall.of1 hF h0 (h.mono fun e fr s1 ⟨h1, h2, h3, h4⟩ => ⟨h1, h2, ⟨h3.next, h3.newMods, h3.old⟩, h4⟩)

/-- A loop by what is kept, and what grows less. -/
theorem Ends.loopInv {b : Code} {Q : Ex → Fr → St → Prop} (I : Nat → Fr → St → Prop) (h : ∀ n fr s, I n fr s → Ends T cx b fr s fun e fr' s' => match e with
    | .normal => ∃ m, m < n ∧ I m fr' s'
    | e => Q e fr' s') : ∀ n fr s, I n fr s → Ends T cx (.loop b) fr s Q := by
  intro n
  induction n using Nat.strongRecOn with
  | _ n ih =>
    intro fr s hI
    refine Ends.loop ((h n fr s hI).mono fun e fr' s' hQ => ?_)
    cases e with
    | normal => obtain ⟨m, hm, hI'⟩ := hQ; exact ih m hm fr' s' hI'
    | ret => exact hQ
    | exit id => exact hQ
end

theorem W.block {T : Tab} {cx : Ctx} {fr : Fr} {s : St} {id : Nat} {b : Code} {Q : Ex → Fr → St → Prop} (h : Ends T cx b fr s fun e fr s => match e with
    | .exit j => if j = id then Q .normal fr s else Q (.exit j) fr s
    | e => Q e fr s) : Ends T cx (.block id b) fr s Q := Ends.block (h.mono fun e fr s h => by
  cases e with
  | normal => exact h
  | ret => exact h
  | exit j =>
    simp only at h
    unfold outOf
    split at h
    · rename_i e; simp only [e, if_true]; exact h
    · rename_i e; simp only [e, if_false]; exact h)
theorem W.outT {j id : Nat} {A C : Prop} (e : j = id) (h : A) : if j = id then A else C := by rw [if_pos e]; exact h
theorem W.outF {j id : Nat} {A C : Prop} (e : j ≠ id) (h : C) : if j = id then A else C := by rw [if_neg e]; exact h

def noCall : Op → Bool
  | .call ⟨.value _, _, _⟩ => false
  | _ => true
theorem noCall_ne {o : Op} (h : noCall o = true) : ∀ f args ts, o ≠ .call ⟨.value f, args, ts⟩ := by
  intro f args ts e; rw [e] at h; cases h

/-! Single operations. -/
section
variable {T : Tab} {ρ : Operand → Value} {s : St}
theorem p_bin {op : BinOp} {t p : TypeId} {x y : Operand} {v : Value} (h : binop T op t (isConst x || isConst y) (ρ x) (ρ y) = some v) : evPlain T ρ (.binOp op t x y p) s = some (v, s) := by
  unfold evPlain; simp only [lift, h]
theorem p_box {e : TypeId} {x : Operand} {vs : List Value} (h : cellsOf (ρ x) = vs) : evPlain T ρ (.box e x) s = some (.pointer (some ⟨s.next, 0, none⟩), { s with t := s.t.set s.next (some (.cells vs e 0)), next := s.next + 1 }) := by
  unfold evPlain; simp only [newRow, newB, bnd, ret, h]
theorem p_alloc {e : TypeId} {z : Value} {vs : List Value} (h : T.zero e = some z) (h2 : cellsOf z = vs) : evPlain T ρ (.alloc e) s = some (.pointer (some ⟨s.next, 0, none⟩), { s with t := s.t.set s.next (some (.cells vs e 0)), next := s.next + 1 }) := by
  unfold evPlain; simp only [newRow, newB, bnd, ret, lift, h, h2]
theorem p_load1 {t : TypeId} {a : Operand} {N o e hi n : Nat} {vs : List Value} {v : Value} {d : TypeDesc} (r : Row s.t n N vs e hi) (hx : ρ a = .pointer (some ⟨N, o, none⟩)) (hd : T.und t = some d) (ha : isAggD d = false) (hv : vs[o]? = some v) : evPlain T ρ (.load t a) s = some (v, s) := by
  unfold evPlain
  simp only [hx, addr, bnd, ret, loadVar, rowOf, r.get, hd, ha, hv, Bool.false_eq_true, if_false]
theorem p_loadA {t : TypeId} {a : Operand} {N o e hi n k : Nat} {vs cs : List Value} {d : TypeDesc} (r : Row s.t n N vs e hi) (hx : ρ a = .pointer (some ⟨N, o, none⟩)) (hd : T.und t = some d) (ha : isAggD d = true) (hk : T.size t = some k) (hv : Ev.slice vs o k = some cs) : evPlain T ρ (.load t a) s = some (.agg ⟨cs⟩, s) := by
  unfold evPlain
  simp only [hx, addr, bnd, ret, loadVar, rowOf, r.get, hd, ha, hv, hk, if_true]
theorem p_ix {t : TypeId} {x i : Operand} {v : Value} (h : indexAddr T t (ρ x) (ρ i) = some v) : evPlain T ρ (.indexAddr t x i) s = some (v, s) := by
  unfold evPlain; simp only [lift, h]

variable {t : TypeId} {c : Bool} {k : IntKind} {a b : Int}
theorem geT (h : b ≤ a) : binop T .geq t c (.int k a) (.int k b) = some (.bool true) := by simp [binop, intOp, h]
theorem geF (h : ¬ b ≤ a) : binop T .geq t c (.int k a) (.int k b) = some (.bool false) := by simp [binop, intOp, h]
theorem leT (h : a ≤ b) : binop T .leq t c (.int k a) (.int k b) = some (.bool true) := by simp [binop, intOp, h]
theorem leF (h : ¬ a ≤ b) : binop T .leq t c (.int k a) (.int k b) = some (.bool false) := by simp [binop, intOp, h]
theorem ltT (h : a < b) : binop T .lss t c (.int k a) (.int k b) = some (.bool true) := by simp [binop, intOp, h]
theorem ltF (h : ¬ a < b) : binop T .lss t c (.int k a) (.int k b) = some (.bool false) := by simp [binop, intOp, h]
theorem gtT (h : b < a) : binop T .gtr t c (.int k a) (.int k b) = some (.bool true) := by simp [binop, intOp, h]
theorem gtF (h : ¬ b < a) : binop T .gtr t c (.int k a) (.int k b) = some (.bool false) := by simp [binop, intOp, h]
theorem eqT (h : a = b) : binop T .eql t c (.int k a) (.int k b) = some (.bool true) := by simp [binop, intOp, h]
theorem eqF (h : ¬ a = b) : binop T .eql t c (.int k a) (.int k b) = some (.bool false) := by simp [binop, intOp, h]
theorem neT (h : ¬ a = b) : binop T .neq t c (.int k a) (.int k b) = some (.bool true) := by simp [binop, intOp, h]
theorem neF (h : a = b) : binop T .neq t c (.int k a) (.int k b) = some (.bool false) := by simp [binop, intOp, h]
/-- A string's bytes. -/
def B (s : ByteArray) : List UInt8 := s.data.toList
theorem seqT {x y : ByteArray} (h : B x = B y) : binop T .eql t c (.string x) (.string y) = some (.bool true) := by simp [binop, stringOp, B] at h ⊢; exact h
theorem seqF {x y : ByteArray} (h : ¬ B x = B y) : binop T .eql t c (.string x) (.string y) = some (.bool false) := by simp [binop, stringOp, B] at h ⊢; exact h
theorem sneT {x y : ByteArray} (h : ¬ B x = B y) : binop T .neq t c (.string x) (.string y) = some (.bool true) := by simp [binop, stringOp, B] at h ⊢; exact h
theorem sneF {x y : ByteArray} (h : B x = B y) : binop T .neq t c (.string x) (.string y) = some (.bool false) := by simp [binop, stringOp, B] at h ⊢; exact h
/-- 64 bits. -/
abbrev W (x : Int) : Int := IntKind.i64.wrap x
theorem addW : binop T .add t c (.int .i64 a) (.int .i64 b) = some (.int .i64 (W (a + b))) := rfl
theorem subW : binop T .sub t c (.int .i64 a) (.int .i64 b) = some (.int .i64 (W (a - b))) := rfl
theorem W_id {x : Int} (h : -9223372036854775808 ≤ x) (h2 : x < 9223372036854775808) : W x = x := by
  unfold W IntKind.wrap
  simp [IntKind.signed, IntKind.bits]
  omega
theorem addI {d : Int} (e : a + b = d) (h : -9223372036854775808 ≤ d) (h2 : d < 9223372036854775808) : binop T .add t c (.int .i64 a) (.int .i64 b) = some (.int .i64 d) := by rw [addW, e, W_id h h2]
theorem subI {d : Int} (e : a - b = d) (h : -9223372036854775808 ≤ d) (h2 : d < 9223372036854775808) : binop T .sub t c (.int .i64 a) (.int .i64 b) = some (.int .i64 d) := by rw [subW, e, W_id h h2]
end

/-! Lists in memory. -/
/-- A slice whose elements are cells alone: 'c' says which, 'k' how many. -/
structure Sl {α : Type} (c : α → List Value) (k : Nat) (t : Tree) (n : Nat) (a : Option Addr) (l : List α) (N o : Nat) (vs : List Value) (e hi : Nat) : Prop where
  addr : l ≠ [] → a = some ⟨N, o, none⟩
  row : l ≠ [] → Row t n N vs e hi
  get : ∀ i x, l[i]? = some x → Ev.slice vs (o + i * k) k = some (c x)
  small : l.length < 4611686018427387904

theorem slice_at {vs cs : List Value} {o n j : Nat} {v : Value} (h : Ev.slice vs o n = some cs) (hj : cs[j]? = some v) : vs[o + j]? = some v := by
  unfold Ev.slice at h
  simp only at h
  split at h
  · cases h
    rw [List.getElem?_take] at hj
    split at hj
    · rwa [List.getElem?_drop] at hj
    · cases hj
  · cases h
section
variable {α : Type} {c : α → List Value} {k : Nat} {a : Option Addr} {l : List α} {N o e hi : Nat} {vs : List Value}
theorem Sl.own {s s' : St} (h : Sl c k s.t s.next a l N o vs e hi) (w : Own s s') : Sl c k s'.t s'.next a l N o vs e hi := ⟨h.addr, fun hl => (h.row hl).own w, h.get, h.small⟩
theorem Sl.ne {t : Tree} {n : Nat} (_ : Sl c k t n a l N o vs e hi) {i : Nat} {x : α} (hx : l[i]? = some x) : l ≠ [] := by
  intro h; rw [h] at hx; cases hx
theorem Sl.ix {t : Tree} {n : Nat} (h : Sl c k t n a l N o vs e hi) {T : Tab} {ty el : TypeId} (hu : T.und ty = some (.slice el)) (hs : T.size el = some k) {i : Nat} {x : α} (hx : l[i]? = some x) (cap : Nat) : indexAddr T ty (.slice a l.length cap) (.int .i64 i) = some (.pointer (some ⟨N, o + i * k, none⟩)) := by
  have hi' : i < l.length := by
    obtain ⟨h1, _⟩ := List.getElem?_eq_some_iff.1 hx; exact h1
  rw [h.addr (h.ne hx)]
  unfold indexAddr
  simp only [hu, hs]
  rw [if_pos ⟨by omega, by omega⟩]
  simp
theorem Sl.row' {t : Tree} {n : Nat} (h : Sl c k t n a l N o vs e hi) {i : Nat} {x : α} (hx : l[i]? = some x) : Row t n N vs e hi := h.row (h.ne hx)
theorem Sl.at {t : Tree} {n : Nat} (h : Sl c k t n a l N o vs e hi) {i j : Nat} {x : α} {v : Value} (hx : l[i]? = some x) (hj : (c x)[j]? = some v) : vs[o + i * k + j]? = some v := slice_at (h.get i x hx) hj
end
theorem ex_at {α : Type} {l : List α} {i : Nat} (h : i < l.length) : ∃ x, l[i]? = some x := ⟨l[i], List.getElem?_eq_getElem h⟩
/-- An edit. -/
structure Ed where
  lo : Int
  hi : Int
  tx : ByteArray
abbrev Ed.cells (e : Ed) : List Value := [.int .i64 e.lo, .int .i64 e.hi, .string e.tx]

/-! In the text's order. -/
section
variable {T : Tab} {fr : Fr} {s s0 : St} {ops : Array Oper} {o : Oper} {os : List Oper} {Q : Fr → St → Prop}

theorem W.op {v : Value} {fr1 : Fr} (hw : Region.wanted o (yieldedL ops fr.tmps) = true) (hp : evPlain T fr.eval o.op s = some (v, s)) (hc : noCall o.op = true) (hf : fr.put o.dst v = fr1) (h : EndsOps T ops os fr1 s Q) : EndsOps T ops (o :: os) fr s Q := EndsOps.plain1 hw hp (noCall_ne hc) hf h
theorem W.skip {fr1 : Fr} (hw : Region.wanted o (yieldedL ops fr.tmps) = false) (hf : fr.put o.dst undef = fr1) (h : EndsOps T ops os fr1 s Q) : EndsOps T ops (o :: os) fr s Q := EndsOps.skip1 hw hf h
theorem W.new {N : Nat} {e : TypeId} {vs : List Value} {fr1 : Fr} (hO : Own s0 s) (hN : N = s.next) (hw : Region.wanted o (yieldedL ops fr.tmps) = true)
    (hp : evPlain T fr.eval o.op s = some (.pointer (some ⟨s.next, 0, none⟩), { s with t := s.t.set s.next (some (.cells vs e 0)), next := s.next + 1 })) (hc : noCall o.op = true) (hf : fr.put o.dst (.pointer (some ⟨N, 0, none⟩)) = fr1)
    (h : ∀ s1 : St, Own s0 s1 → Own s s1 → Row s1.t s1.next N vs e 0 → s0.next ≤ N → EndsOps T ops os fr1 s1 Q) : EndsOps T ops (o :: os) fr s Q := by
  subst hN
  have hS : Own s { s with t := s.t.set s.next (some (.cells vs e 0)), next := s.next + 1 } := ⟨Nat.le_succ _, ⟨[], rfl, fun _ h => by cases h⟩, fun N hN => Tree.get_set_ne _ _ (Nat.ne_of_lt hN)⟩
  exact EndsOps.plain1 hw hp (noCall_ne hc) hf (h _ (hO.trans hS) hS ⟨Tree.get_set_same _ _ _, Nat.lt_succ_self _⟩ hO.next)
theorem W.call {f : Operand} {args : Array Operand} {ts : Array TypeId} {g : FuncId} {ar : List Value} {X : Value} {fr1 : Fr} (hO : Own s0 s) (hw : Region.wanted o (yieldedL ops fr.tmps) = true) (ho : o.op = .call ⟨.value f, args, ts⟩)
    (hf : fr.eval f = .func (.func g) #[] #[]) (ha : args.toList.map fr.eval = ar) (hR : EndsPure T g ar s fun v _ _ => v = X) (hp : fr.put o.dst X = fr1) (h : ∀ s1, Own s0 s1 → Own s s1 → EndsOps T ops os fr1 s1 Q) : EndsOps T ops (o :: os) fr s Q := by
  subst hp
  refine EndsOps.call1 hw ho hf rfl (R := fun v s' => Keep s s' ∧ v = X) ?_ fun v s1 ⟨hk, hv⟩ => by subst hv; exact h s1 (hO.trans hk.own) hk.own
  simp only [List.nil_append, List.append_nil, ha]; exact hR
/-- A store into a block of one's own. -/
theorem W.store {t : TypeId} {a x : Operand} {N p e hi : Nat} {vs vs' cs : List Value} {fr1 : Fr} (hO : Own s0 s) (r : Row s.t s.next N vs e hi) (hN : s0.next ≤ N) (hw : Region.wanted o (yieldedL ops fr.tmps) = true) (ho : o.op = .store t a x) (hx : fr.eval a = .pointer (some ⟨N, p, none⟩)) (hv : cellsOf (fr.eval x) = cs)
    (hz : T.size t = some cs.length) (h0 : cs ≠ []) (hh : hi < END ∧ hi ≤ p ∧ p + cs.length ≤ vs.length ∧ cs.all oneCell = true) (hp : putAt vs p cs = vs') (hf : fr.put o.dst undef = fr1)
    (h : ∀ s1 : St, Own s0 s1 → s1.next = s.next → (∀ M, M ≠ N → s1.t.get M = s.t.get M) → Row s1.t s1.next N vs' e hi → EndsOps T ops os fr1 s1 Q) : EndsOps T ops (o :: os) fr s Q := by
  subst hp
  have hc : noCall o.op = true := by rw [ho]; rfl
  refine EndsOps.plain1 hw (v := undef) (s1 := { s with t := s.t.set N (some (.cells (putAt vs p cs) e hi)), mods := N :: s.mods }) ?_ (noCall_ne hc) hf (h _ ?_ rfl (fun M hM => Tree.get_set_ne _ _ hM) ⟨Tree.get_set_same _ _ _, r.lt⟩)
  · rw [ho]
    unfold evPlain
    cases hcs : cs with
    | nil => exact absurd hcs h0
    | cons c0 cr =>
      simp only [hx, addr, bnd, ret, storeVar, hz, hv, if_true]
      rw [← hcs]
      unfold storeCells
      rw [hcs]
      simp only [bnd, rowOf, r.get]
      rw [← hcs, if_pos hh]
      simp only [setB, r.get]
  · obtain ⟨l, h1, h2⟩ := hO.mods
    refine ⟨hO.next, ⟨N :: l, by simp [h1], fun M hM => ?_⟩, fun M hM => (Tree.get_set_ne _ _ (by omega)).trans (hO.old M hM)⟩
    rcases List.mem_cons.1 hM with rfl | hM
    · exact ⟨hN, r.lt⟩
    · exact h2 M hM
theorem Row.upd {s s1 : St} {N M e hi : Nat} {vs : List Value} (r : Row s.t s.next M vs e hi) (hn : s1.next = s.next) (hu : ∀ M, M ≠ N → s1.t.get M = s.t.get M) (h : M ≠ N) : Row s1.t s1.next M vs e hi := ⟨(hu M h).trans r.get, hn ▸ r.lt⟩
theorem Sl.upd {α : Type} {c : α → List Value} {k : Nat} {a : Option Addr} {l : List α} {M o e hi N : Nat} {vs : List Value} {s s1 : St} (h : Sl c k s.t s.next a l M o vs e hi) (hn : s1.next = s.next) (hu : ∀ M, M ≠ N → s1.t.get M = s.t.get M) (hM : l ≠ [] → M ≠ N) : Sl c k s1.t s1.next a l M o vs e hi :=
  ⟨h.addr, fun hl => (h.row hl).upd hn hu (hM hl), h.get, h.small⟩
end

/-! In drawn order. -/
/-- What those so far have laid: place, from, to. -/
def hidL (bits : Nat) : List (Nat × Nat × Nat) → List (Nat × Nat)
  | [] => []
  | (j, lo, hi) :: r => if bits.testBit j then hidL bits r else (lo, hi) :: hidL bits r
def EndsD (T : Tab) (ops : Array Oper) (bef : List Nat) (i : Nat) (os : List Oper) (L : List (Nat × Nat × Nat)) (fr : Fr) (s : St) (Q : Fr → St → Prop) : Prop :=
  ∀ ds, Calm ds → (∀ bits p, p ∈ hiddenOf bits ds → p ∈ hidL bits L) → EndsDraw T ops bef i os ds fr s Q
section
variable {T : Tab} {cx : Ctx} {fr : Fr} {s s0 : St} {ops : Array Oper} {bef : List Nat} {i : Nat} {o : Oper} {os : List Oper} {L : List (Nat × Nat × Nat)} {Q : Fr → St → Prop}

theorem Ends.drawW {id : Nat} {Q : Ex → Fr → St → Prop} (hb : befL [] ops.toList = bef) (h : EndsD T ops bef 0 ops.toList [] fr s fun fr s => Q .normal fr s) : Ends T cx (.region id ops true) fr s Q := by
  subst hb
  exact Ends.draw (h [] Calm.nil fun _ _ h => h)
theorem D.nil (h : Q fr s) : EndsD T ops bef i [] L fr s Q := fun _ _ _ => EndsDraw.nil h
theorem D.skip {fr1 : Fr} (hw : Region.wanted o (yieldedL ops fr.tmps) = false) (hf : fr.put o.dst undef = fr1) (h : EndsD T ops bef (i + 1) os L fr1 s Q) : EndsD T ops bef i (o :: os) L fr s Q := fun ds h1 h2 => EndsDraw.skip1 hw hf (h ds h1 h2)
theorem hid_same {k b x : Nat} {ms : List Nat} {ds : List (Nat × Did)} (h : ∀ bits p, p ∈ hiddenOf bits ds → p ∈ hidL bits L) : ∀ bits p, p ∈ hiddenOf bits ((i, ⟨k, b, x, x, ms⟩) :: ds) → p ∈ hidL bits L := fun bits p hp => by
  unfold hiddenOf at hp
  simp at hp
  exact h bits p hp
theorem hid_more {k b x y : Nat} {ms : List Nat} {ds : List (Nat × Did)} (h : ∀ bits p, p ∈ hiddenOf bits ds → p ∈ hidL bits L) : ∀ bits p, p ∈ hiddenOf bits ((i, ⟨k, b, x, y, ms⟩) :: ds) → p ∈ hidL bits ((i, x, y) :: L) := fun bits p hp => by
  unfold hiddenOf at hp
  unfold hidL
  by_cases hb : bits.testBit i = true
  · simp [hb] at hp ⊢
    exact h bits p hp
  · simp [hb] at hp ⊢
    split at hp
    · exact .inr (h bits p hp)
    · rcases List.mem_cons.1 hp with rfl | hp
      · exact .inl rfl
      · exact .inr (h bits p hp)
theorem D.op {v : Value} {fr1 : Fr} (hw : Region.wanted o (yieldedL ops fr.tmps) = true) (hp : evPlain T fr.eval o.op ⟨.leaf, s.next, []⟩ = some (v, ⟨.leaf, s.next, []⟩)) (hc : noCall o.op = true) (hk : kindOf o = 0) (hf : fr.put o.dst v = fr1)
    (h : EndsD T ops bef (i + 1) os L fr1 s Q) : EndsD T ops bef i (o :: os) L fr s Q := fun ds h1 h2 => EndsDraw.still h1 hw hk (noCall_ne hc) hp hf (h _ (h1.cons rfl) (hid_same h2))
theorem D.load {t : TypeId} {a : Operand} {N p : Nat} {v : Value} {fr1 : Fr} (hw : Region.wanted o (yieldedL ops fr.tmps) = true) (ho : o.op = .load t a) (hx : fr.eval a = .pointer (some ⟨N, p, none⟩)) (hh : ∀ q ∈ hidL (bef.getD i 0) L, N < q.1 ∨ q.2 ≤ N)
    (hp : ∀ s1 : St, s1.t.get N = s.t.get N → evPlain T fr.eval o.op s1 = some (v, s1)) (hf : fr.put o.dst v = fr1) (h : EndsD T ops bef (i + 1) os L fr1 s Q) : EndsD T ops bef i (o :: os) L fr s Q := fun ds h1 h2 => by
  have hc : noCall o.op = true := by rw [ho]; rfl
  have hb : blkOf fr o = N := by unfold blkOf; rw [ho]; simp only [hx]
  have hk : kindOf o = 2 := by unfold kindOf; rw [ho]
  refine EndsDraw.load h1 hw hk (noCall_ne hc) hb (List.all_eq_true.2 fun q hq => ?_) hp hf (h _ (h1.cons rfl) (hid_same h2))
  have := hh q (h2 _ q hq)
  simpa using this
theorem D.call {f : Operand} {args : Array Operand} {ts : Array TypeId} {g : FuncId} {ar : List Value} {X : Value} {fr1 : Fr} (hO : Own s0 s) (hw : Region.wanted o (yieldedL ops fr.tmps) = true) (ho : o.op = .call ⟨.value f, args, ts⟩)
    (hf : fr.eval f = .func (.func g) #[] #[]) (ha : args.toList.map fr.eval = ar) (hh : hidL (bef.getD i 0) L = []) (hR : EndsPure T g ar ⟨s.t, s.next, []⟩ fun v _ _ => v = X) (hp : fr.put o.dst X = fr1)
    (h : ∀ s1, Own s0 s1 → Own s s1 → EndsD T ops bef (i + 1) os ((i, s.next, s1.next) :: L) fr1 s1 Q) : EndsD T ops bef i (o :: os) L fr s Q := fun ds h1 h2 => by
  subst hp
  have hn : hiddenOf (bef.getD i 0) ds = [] := List.eq_nil_iff_forall_not_mem.2 fun p hp => by
    have := h2 _ p hp
    rw [hh] at this; cases this
  refine EndsDraw.call1 h1 hw ho hf rfl hn (R := fun v _ => v = X) ?_ fun v b s1 hv hk hnx _ => ?_
  · refine EndsCall.mono (Q := fun v s' => Keep ⟨s.t, s.next, []⟩ s' ∧ v = X) (by simp only [List.nil_append, List.append_nil, ha]; exact hR) fun _ _ h => ⟨h.2, h.1⟩
  · subst hv
    rw [← hnx]
    exact h s1 (hO.trans hk.own) hk.own _ (h1.cons rfl) (hid_more h2)
end
end Go.Ev
