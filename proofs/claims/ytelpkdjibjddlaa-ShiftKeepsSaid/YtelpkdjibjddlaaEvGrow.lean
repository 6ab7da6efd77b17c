/-
  EV: the rules of a printed walk, third part: lists that appends make, results that lie in memory.
-/
import Derived.Test.YtelpkdjibjddlaaEvWalk
set_option linter.unusedSimpArgs false
set_option linter.unusedVariables false
namespace Go.Ev
open Go Go.RowKit

theorem flat_slice {α : Type} {c : α → List Value} {k : Nat} (hc : ∀ y, (c y).length = k) : ∀ (l : List α) (i : Nat) (y : α), l[i]? = some y → Ev.slice (l.map c).flatten (i * k) k = some (c y)
  | [], i, y, h => by simp at h
  | x :: l, 0, y, h => by
    simp at h; subst h
    unfold Ev.slice
    have : ((c x).length) = k := hc x
    simp [this]
  | x :: l, i + 1, y, h => by
    have ih := flat_slice hc l i y (by simpa using h)
    unfold Ev.slice at ih ⊢
    have hd : ((x :: l).map c).flatten.drop ((i + 1) * k) = (l.map c).flatten.drop (i * k) := by
      simp only [List.map_cons, List.flatten_cons]
      rw [Nat.succ_mul, Nat.add_comm, ← List.drop_drop, List.drop_left' (hc x)]
    rw [hd]; exact ih
theorem flat_len {α : Type} {c : α → List Value} {k : Nat} (hc : ∀ y, (c y).length = k) : ∀ l : List α, (l.map c).flatten.length = l.length * k
  | [] => by simp
  | x :: l => by simp only [List.map_cons, List.flatten_cons, List.length_append, flat_len hc l, hc, List.length_cons, Nat.succ_mul]; omega

/-- A list of one's own that appends have made: none of its names lies below 'lo'. -/
def OL {α : Type} (c : α → List Value) (k : Nat) (el : TypeId) (lo : Nat) (t : Tree) (n : Nat) (v : Value) (l : List α) : Prop :=
  l.length < 4611686018427387904 ∧ ((l = [] ∧ ∃ a, v = .slice a 0 0 ∧ (a = none ∨ ∃ N, a = some ⟨N, 0, none⟩)) ∨ ∃ N, v = .slice (some ⟨N, 0, none⟩) l.length (END + k) ∧ Row t n N ((l.map c).flatten) el 0 ∧ lo ≤ N)

section
variable {α : Type} {c : α → List Value} {k : Nat} {el : TypeId} {lo : Nat} {v : Value} {l : List α}
theorem OL.nil {t : Tree} {n : Nat} : OL c k el lo t n (.slice none 0 0) [] := ⟨by simp, .inl ⟨rfl, none, rfl, .inl rfl⟩⟩
theorem OL.own {s s' : St} (h : OL c k el lo s.t s.next v l) (w : Own s s') : OL c k el lo s'.t s'.next v l := by
  obtain ⟨h1, h2⟩ := h
  rcases h2 with h | ⟨N, h2, h3, h4⟩
  · exact ⟨h1, .inl h⟩
  · exact ⟨h1, .inr ⟨N, h2, h3.own w, h4⟩⟩
theorem OL.le {t : Tree} {n lo' : Nat} (h : OL c k el lo t n v l) (hlo : lo' ≤ lo) : OL c k el lo' t n v l := by
  obtain ⟨h1, h2⟩ := h
  rcases h2 with h | ⟨N, h2, h3, h4⟩
  · exact ⟨h1, .inl h⟩
  · exact ⟨h1, .inr ⟨N, h2, h3, Nat.le_trans hlo h4⟩⟩
/-- What a slice must be for parts to be taken of it. -/
def Cp (k : Nat) (a : Option Addr) (len cap : Nat) : Prop := (cap < END ∧ len ≤ cap ∨ cap = END + k) ∧ (a = none ∨ ∃ N o, a = some ⟨N, o, none⟩)
theorem OL.sl {t : Tree} {n : Nat} (h : OL c k el lo t n v l) (hc : ∀ y, (c y).length = k) : ∃ a cap N vs e hi, v = .slice a l.length cap ∧ Sl c k t n a l N 0 vs e hi ∧ (l ≠ [] → lo ≤ N) ∧ Cp k a l.length cap := by
  obtain ⟨h1, h2⟩ := h
  rcases h2 with ⟨rfl, a, rfl, ha⟩ | ⟨N, rfl, h3, h4⟩
  · refine ⟨a, 0, 0, [], 0, 0, rfl, ⟨fun h => absurd rfl h, fun h => absurd rfl h, fun i x h => by simp at h, h1⟩, fun h => absurd rfl h, .inl ⟨by decide, Nat.le_refl _⟩, ?_⟩
    rcases ha with rfl | ⟨N, rfl⟩
    · exact .inl rfl
    · exact .inr ⟨N, 0, rfl⟩
  · exact ⟨_, _, N, _, el, 0, rfl, ⟨fun _ => rfl, fun _ => h3, fun i y hy => by rw [Nat.zero_add]; exact flat_slice hc l i y hy, h1⟩, fun _ => h4, .inr rfl, .inr ⟨N, 0, rfl⟩⟩
theorem OL.len {t : Tree} {n : Nat} (h : OL c k el lo t n v l) : ∃ a cap, v = .slice a l.length cap := by
  obtain ⟨h1, h2⟩ := h
  rcases h2 with ⟨rfl, a, rfl, ha⟩ | ⟨N, rfl, h3, h4⟩
  · exact ⟨a, 0, rfl⟩
  · exact ⟨_, _, rfl⟩
end

theorem Sl.take {α : Type} {c : α → List Value} {k : Nat} {a : Option Addr} {l : List α} {N o e hi : Nat} {vs : List Value} {t : Tree} {n : Nat} (h : Sl c k t n a l N o vs e hi) (i : Nat) : Sl c k t n a (l.take i) N o vs e hi :=
  ⟨fun hl => h.addr fun h0 => hl (by rw [h0]; simp), fun hl => h.row fun h0 => hl (by rw [h0]; simp), fun j x hx => h.get j x (by
    rw [List.getElem?_take] at hx; split at hx
    · exact hx
    · cases hx), by have := h.small; rw [List.length_take]; omega⟩
/-- The first so many of a slice. -/
theorem sliceTo {T : Tab} {ty el : TypeId} {k : Nat} {a : Option Addr} {len cap i : Nat} (hu : T.und ty = some (.slice el)) (hs : T.size el = some k) (hc : Cp k a len cap) (hi : i ≤ len) : sliceOp T ty (.slice a len cap) none (some (.int .i64 i)) none = some (.slice a i cap) := by
  unfold sliceOp
  simp only [hu, hs, bound]
  rw [if_pos (by omega : (0 : Int) ≤ i)]
  simp only [Int.toNat_natCast]
  obtain ⟨h1, h2⟩ := hc
  have ha : (a.map fun x : Addr => (⟨x.block, x.off + 0 * k, none⟩ : Addr)) = a := by
    rcases h2 with rfl | ⟨N, o, rfl⟩
    · rfl
    · simp
  have hz : ((a.map fun x : Addr => (⟨x.block, x.off + 0 * k, none⟩ : Addr))) = a := ha
  rcases h1 with ⟨h1, h3⟩ | rfl
  · rw [if_neg (by omega), if_pos ⟨Nat.zero_le _, by omega⟩]
    simp only [Nat.sub_zero]
    split
    · rfl
    · rw [hz]
  · rw [if_pos (by omega), if_pos ⟨rfl, Nat.zero_le _, hi⟩]
    split
    · rw [hz]; simp only [Nat.sub_zero]
    · rename_i h0
      have : i = 0 := by omega
      subst this
      simp
theorem p_sliceTo {T : Tab} {ρ : Operand → Value} {s : St} {ty el : TypeId} {k : Nat} {a : Option Addr} {len cap i : Nat} {x h : Operand} (hx : ρ x = .slice a len cap) (hh : ρ h = .int .i64 i) (hu : T.und ty = some (.slice el)) (hs : T.size el = some k) (hc : Cp k a len cap) (hi : i ≤ len) :
    evPlain T ρ (.slice ty x none (some h) none) s = some (.slice a i cap, s) := by
  unfold evPlain
  simp only [Option.isSome_none, Bool.false_and, Bool.false_eq_true, if_false, Option.map_none, Option.map_some, hx, hh, sliceTo hu hs hc hi, lift]

theorem p_takeTo {α : Type} {l : List α} {T : Tab} {ρ : Operand → Value} {s : St} {ty el : TypeId} {k : Nat} {a : Option Addr} {cap i : Nat} {x h : Operand} (hx : ρ x = .slice a l.length cap) (hh : ρ h = .int .i64 i) (hu : T.und ty = some (.slice el)) (hs : T.size el = some k) (hc : Cp k a l.length cap) (hi : i ≤ l.length) :
    evPlain T ρ (.slice ty x none (some h) none) s = some (.slice a (l.take i).length cap, s) := by
  rw [List.length_take, Nat.min_eq_left hi]; exact p_sliceTo hx hh hu hs hc hi

/-- Two texts behind one another. -/
def cat (x y : ByteArray) : ByteArray := ⟨⟨B x ++ B y⟩⟩
theorem B_cat (x y : ByteArray) : B (cat x y) = B x ++ B y := rfl
theorem catT {T : Tab} {t : TypeId} {c : Bool} {x y : ByteArray} (h : (B x).length + (B y).length ≤ 9223372036854775807) : binop T .add t c (.string x) (.string y) = some (.string (cat x y)) := by
  simp only [binop, stringOp]
  rw [if_pos (by exact h)]; rfl

/-- What of the types an append asks. -/
structure AppOk (T : Tab) (sT xT el : TypeId) (k b : Nat) : Prop where
  und : T.und sT = some (.slice el)
  arg : (T.und xT).map appendable = some true
  size : T.size el = some k
  bytes : T.bytes el = some b
  zero : ∃ z, T.zero el = some z ∧ (cellsOf z).length = k
  pos : 0 < k
  lt : k < END

/-- May this name be struck when v is appended to? -/
def Struck (v : Value) (M : Nat) : Prop := ∃ len cap, v = .slice (some ⟨M, 0, none⟩) len cap ∧ END ≤ cap

theorem append_run {α : Type} {c : α → List Value} {k : Nat} {el sT xT : TypeId} {b lo : Nat} {T : Tab} (A : AppOk T sT xT el k b) (hc : ∀ y, (c y).length = k) (h1 : ∀ y, ∀ v ∈ c y, oneCell v = true) {v xs : Value} {l ys : List α} {s : St} (hl : OL c k el lo s.t s.next v l) (hlo : lo ≤ s.next)
    (hx1 : lenOf xs = some ys.length) (hx2 : firstCells ys.length k xs s = some ((ys.map c).flatten, s)) (hb : (l.length + ys.length) * b ≤ 140737488355328) (hb2 : l.length + ys.length < 4611686018427387904) :
    ∃ v' s1, append T [sT, xT] [v, xs] s = some (v', s1) ∧ s.next ≤ s1.next ∧ OL c k el lo s1.t s1.next v' (l ++ ys) ∧ (∃ m, s1.mods = m ++ s.mods ∧ ∀ N ∈ m, Struck v N) ∧ ∀ M, M < s.next → ¬ Struck v M → s1.t.get M = s.t.get M := by
  obtain ⟨z, hz, hzk⟩ := A.zero
  have hall : (ys.map c).flatten.all oneCell = true := List.all_eq_true.2 fun w hw => by
    obtain ⟨q, hq, hw⟩ := List.mem_flatten.1 hw
    obtain ⟨y, _, rfl⟩ := List.mem_map.1 hq
    exact h1 y w hw
  have hfl : (ys.map c).flatten.length = ys.length * k := flat_len hc ys
  have hpos := A.pos
  have hklt := A.lt
  have hE : (4611686018427387904 : Nat) = END := rfl
  have e0 : append T [sT, xT] [v, xs] s = match v with
    | .slice base sLen sCap => appendOf T el base sLen sCap xs s
    | _ => none := by
    unfold append
    simp only [A.und, A.arg]
    cases v <;> rfl
  rw [e0]
  obtain ⟨hl1, hl2⟩ := hl
  rcases hl2 with ⟨rfl, a, rfl, ha⟩ | ⟨N, rfl, hr, hN⟩
  · simp only
    unfold appendOf
    simp only [bnd, lift, A.size, A.bytes, hz, hx1, hx2]
    rw [if_neg (by decide)]
    have hst : ∀ M, ¬ Struck (.slice a 0 0) M := fun M ⟨len, cap, h, hcp⟩ => by cases h; exact absurd hcp (by decide)
    by_cases hy : ys = []
    · subst hy
      rw [if_pos (by simp)]
      refine ⟨.slice a 0 0, s, ?_, Nat.le_refl _, ⟨by simp, .inl ⟨rfl, a, rfl, ha⟩⟩, ⟨[], rfl, fun _ h => by cases h⟩, fun _ _ _ => rfl⟩
      rcases ha with rfl | ⟨N, rfl⟩
      · rfl
      · rfl
    · have hyl : 0 < ys.length := List.length_pos_iff.2 hy
      rw [if_neg (by omega)]
      have hf : firstCells 0 k (.slice a 0 0) s = some ([], s) := by
        rcases ha with rfl | ⟨N, rfl⟩ <;> rfl
      unfold appendNew
      simp only [bnd, hf]
      rw [if_pos ⟨hpos, hklt, by simpa using hb, by simpa [END] using hb2, hfl, by simp, hzk⟩]
      refine ⟨_, _, rfl, Nat.le_succ _, ⟨by simpa using hb2, .inr ⟨s.next, by simp, ⟨?_, Nat.lt_succ_self _⟩, hlo⟩⟩, ⟨[], rfl, fun _ h => by cases h⟩, fun M hM _ => Tree.get_set_ne _ _ (by omega)⟩
      simp only [List.nil_append]
      exact Tree.get_set_same _ _ _
  · simp only
    unfold appendOf
    simp only [bnd, lift, A.size, A.bytes, hz, hx1, hx2]
    rw [if_pos (by omega)]
    simp only [if_true]
    unfold appendEnd
    have hslice : Ev.slice (l.map c).flatten 0 (l.length * k) = some ((l.map c).flatten) := by
      unfold Ev.slice
      simp only [List.drop_zero]
      rw [List.take_of_length_le (by rw [flat_len hc]; exact Nat.le_refl _), if_pos (flat_len hc l)]
    simp only [bnd, rowOf, hr.get, hslice, lift]
    rw [if_pos ⟨trivial, hpos, hklt, by decide, Nat.zero_le _, hb, by simpa [END] using hb2, hall, hfl, hzk, Nat.zero_mod _⟩]
    have hd : delB N s = some ((), { s with t := s.t.set N none, mods := N :: s.mods }) := by unfold delB; rw [hr.get]
    simp only [bnd, hd, newB, ret]
    refine ⟨_, _, rfl, Nat.le_succ _, ⟨by simpa using hb2, .inr ⟨s.next, by simp, ⟨?_, Nat.lt_succ_self _⟩, hlo⟩⟩, ⟨[N], rfl, fun M hM => ?_⟩, fun M hM hne => ?_⟩
    · simp only [List.map_append, List.flatten_append, Nat.sub_zero]
      exact Tree.get_set_same _ _ _
    · simp at hM; subst hM; exact ⟨_, _, rfl, by omega⟩
    · simp only
      have hMN : M ≠ N := fun h => hne ⟨_, _, by rw [h], by omega⟩
      rw [Tree.get_set_ne _ _ (Nat.ne_of_lt hM), Tree.get_set_ne _ _ hMN]

theorem firstOne {α : Type} {c : α → List Value} {k : Nat} {x : α} (hc : (c x).length = k) {X e hi n : Nat} {s : St} (r : Row s.t n X (c x) e hi) : firstCells [x].length k (.slice (some ⟨X, 0, none⟩) 1 1) s = some (([x].map c).flatten, s) := by
  unfold firstCells
  simp only [List.length_singleton, Nat.le_refl, if_true, bnd, rowOf, r.get, Nat.one_mul, List.map_cons, List.map_nil, List.flatten_cons, List.flatten_nil, List.append_nil]
  rw [if_neg (by decide)]
  have : Ev.slice (c x) 0 k = some (c x) := by
    unfold Ev.slice; simp only [List.drop_zero]; rw [List.take_of_length_le (by omega), if_pos hc]
  simp only [bnd, rowOf, r.get, this]; rfl

section
variable {T : Tab} {fr : Fr} {s s0 : St} {ops : Array Oper} {o : Oper} {os : List Oper} {Q : Fr → St → Prop}

theorem Own.append {z s1 : St} {α : Type} {c : α → List Value} {k lo : Nat} {el : TypeId} {v : Value} {l : List α} (hz : Own z s) (hl : OL c k el lo s.t s.next v l) (hlo : z.next ≤ lo) (h1 : s.next ≤ s1.next) (h2 : ∃ m, s1.mods = m ++ s.mods ∧ ∀ N ∈ m, Struck v N) (h3 : ∀ M, M < s.next → ¬ Struck v M → s1.t.get M = s.t.get M) : Own z s1 := by
  have key : ∀ M, Struck v M → z.next ≤ M ∧ M < s.next := fun M ⟨len, cap, e, hcap⟩ => by
    obtain ⟨_, hl2⟩ := hl
    rcases hl2 with ⟨_, a, h, _⟩ | ⟨N, h, hr, hN⟩
    · rw [e] at h; cases h; exact absurd hcap (by decide)
    · rw [e] at h; cases h; exact ⟨Nat.le_trans hlo hN, hr.lt⟩
  obtain ⟨m, h4, h5⟩ := h2
  obtain ⟨q, h6, h7⟩ := hz.mods
  refine ⟨Nat.le_trans hz.next h1, ⟨m ++ q, by rw [h4, h6, List.append_assoc], fun N hN => ?_⟩, fun N hN => ?_⟩
  · rcases List.mem_append.1 hN with hN | hN
    · have := key N (h5 N hN); omega
    · have := h7 N hN; omega
  · rw [h3 N (Nat.lt_of_lt_of_le hN hz.next) fun hs => by have := key N hs; omega]
    exact hz.old N hN

/-- An append of one element that has just been laid. -/
theorem W.append {α : Type} {c : α → List Value} {k b : Nat} {el sT xT : TypeId} {l : List α} {x : α} {v : Value} {X e2 h2 : Nat} {z : St} {p q : Operand} {fF : Value → Fr} (A : AppOk T sT xT el k b) (hc : ∀ y, (c y).length = k) (h1 : ∀ y, ∀ v ∈ c y, oneCell v = true) (hO : Own s0 s) (hz : Own z s) (hl : OL c k el s0.next z.t z.next v l)
    (hX : Row s.t s.next X (c x) e2 h2) (hw : Region.wanted o (yieldedL ops fr.tmps) = true) (ho : o.op = .call ⟨.builtin .append, #[p, q], #[sT, xT]⟩) (hp : fr.eval p = v) (hq : fr.eval q = .slice (some ⟨X, 0, none⟩) 1 1) (hb : (l.length + 1) * b ≤ 140737488355328) (hb2 : l.length + 1 < 4611686018427387904)
    (hf : ∀ v', fr.put o.dst v' = fF v')
    (h : ∀ v' s1, Own s0 s1 → s.next ≤ s1.next → (∀ M, z.next ≤ M → M < s.next → s1.t.get M = s.t.get M) → OL c k el s0.next s1.t s1.next v' (l ++ [x]) → EndsOps T ops os (fF v') s1 Q) : EndsOps T ops (o :: os) fr s Q := by
  have hc' : noCall o.op = true := by rw [ho]; rfl
  obtain ⟨v', s1, e1, e2', e3, e4, e5⟩ := append_run A hc h1 (hl.own hz) hO.next (xs := .slice (some ⟨X, 0, none⟩) 1 1) (ys := [x]) rfl (firstOne (hc x) hX) (by simpa using hb) (by simpa using hb2)
  refine EndsOps.plain1 hw (v := v') (s1 := s1) ?_ (noCall_ne hc') (hf v') (h v' s1 (Own.append hO (hl.own hz) (Nat.le_refl _) e2' e4 e5) e2' (fun M hM hM2 => e5 M hM2 fun ⟨len, cap, e, hcap⟩ => ?_) e3)
  · rw [ho]
    show Ev.append T [sT, xT] [fr.eval p, fr.eval q] s = _
    rw [hp, hq]; exact e1
  · obtain ⟨_, hl2⟩ := hl
    rcases hl2 with ⟨_, a, h, _⟩ | ⟨N, h, hr, hN⟩
    · rw [e] at h; cases h; exact absurd hcap (by decide)
    · rw [e] at h; cases h
      have := hr.lt; omega
/-- A call whose result is told of, not named. -/
theorem W.callE {f : Operand} {args : Array Operand} {ts : Array TypeId} {g : FuncId} {ar : List Value} {R : Value → Tree → Nat → Prop} {fF : Value → Fr} (hO : Own s0 s) (hw : Region.wanted o (yieldedL ops fr.tmps) = true) (ho : o.op = .call ⟨.value f, args, ts⟩)
    (hf : fr.eval f = .func (.func g) #[] #[]) (ha : args.toList.map fr.eval = ar) (hR : EndsPure T g ar s R) (hp : ∀ v, fr.put o.dst v = fF v) (h : ∀ v s1, R v s1.t s1.next → Own s0 s1 → Own s s1 → EndsOps T ops os (fF v) s1 Q) : EndsOps T ops (o :: os) fr s Q := by
  refine EndsOps.call1 hw ho hf rfl (R := fun v s' => Keep s s' ∧ R v s'.t s'.next) ?_ fun v s1 ⟨hk, hv⟩ => by rw [hp]; exact h v s1 hv (hO.trans hk.own) hk.own
  simp only [List.nil_append, List.append_nil, ha]; exact hR
/-- A new slice of one element. -/
theorem p_bs {ρ : Operand → Value} {ty el : TypeId} {k : Nat} {x : Operand} {z : Value} {vs : List Value} (hu : T.und ty = some (.slice el)) (hs : T.size el = some k) (hz : T.zero el = some z) (hzk : (cellsOf z).length = k) (h0 : 0 < k ∧ k ≤ 16777216) (hx : cellsOf (ρ x) = vs) (hv : vs.length = k) :
    evPlain T ρ (.buildSlice ty 1 #[(0, x)]) s = some (.slice (some ⟨s.next, 0, none⟩) 1 1, { s with t := s.t.set s.next (some (.cells vs el 0)), next := s.next + 1 }) := by
  unfold evPlain
  show buildSlice T ty 1 [(0, ρ x)] s = _
  unfold buildSlice
  have hzs : zeros T el 1 = some (cellsOf z) := by
    unfold zeros; simp only [hz, hs]; rw [if_pos hzk]; simp [rep]
  simp only [hu, hs, hzs]
  rw [if_pos ⟨h0.1, by decide, by omega⟩]
  have hput : ∀ (l : List Value) (m : List Value), m.length = l.length → putAt l 0 m = m := by
    intro l
    induction l with
    | nil => intro m hm; cases m with
      | nil => rfl
      | cons a r => cases hm
    | cons a r ih => intro m hm; cases m with
      | nil => cases hm
      | cons b q => simp only [putAt]; rw [ih q (by simpa using hm)]
  have hfill : fillL (fun i => some (i * k, k)) (cellsOf z) [(0, ρ x)] = some vs := by
    unfold fillL
    simp only [hx, Nat.zero_mul, Nat.zero_add]
    rw [if_pos ⟨hv, by omega⟩]
    unfold fillL
    rw [hput _ _ (by omega)]
  simp only [hfill, bnd, newB, ret]
theorem W.newS {N : Nat} {e : TypeId} {vs : List Value} {fr1 : Fr} (hO : Own s0 s) (hN : N = s.next) (hw : Region.wanted o (yieldedL ops fr.tmps) = true)
    (hp : evPlain T fr.eval o.op s = some (.slice (some ⟨s.next, 0, none⟩) 1 1, { s with t := s.t.set s.next (some (.cells vs e 0)), next := s.next + 1 })) (hc : noCall o.op = true) (hf : fr.put o.dst (.slice (some ⟨N, 0, none⟩) 1 1) = fr1)
    (h : ∀ s1 : St, Own s0 s1 → Own s s1 → Row s1.t s1.next N vs e 0 → s0.next ≤ N → EndsOps T ops os fr1 s1 Q) : EndsOps T ops (o :: os) fr s Q := by
  subst hN
  have hS : Own s { s with t := s.t.set s.next (some (.cells vs e 0)), next := s.next + 1 } := ⟨Nat.le_succ _, ⟨[], rfl, fun _ h => by cases h⟩, fun N hN => Tree.get_set_ne _ _ (Nat.ne_of_lt hN)⟩
  exact EndsOps.plain1 hw hp (noCall_ne hc) hf (h _ (hO.trans hS) hS ⟨Tree.get_set_same _ _ _, Nat.lt_succ_self _⟩ hO.next)
/-- A store, as those see it who came before. -/
theorem Own.store {z s1 : St} {N : Nat} (hz : Own z s) (hN : z.next ≤ N) (hlt : N < s.next) (hm : ∃ m, s1.mods = m ++ s.mods ∧ ∀ M ∈ m, M = N) (hn : s1.next = s.next) (hu : ∀ M, M ≠ N → s1.t.get M = s.t.get M) : Own z s1 := by
  obtain ⟨m, h1, h2⟩ := hm
  obtain ⟨q, h3, h4⟩ := hz.mods
  refine ⟨by rw [hn]; exact hz.next, ⟨m ++ q, by rw [h1, h3, List.append_assoc], fun M hM => ?_⟩, fun M hM => (hu M (by omega)).trans (hz.old M hM)⟩
  rcases List.mem_append.1 hM with hM | hM
  · have := h2 M hM; omega
  · have := h4 M hM; omega
theorem W.store2 {t : TypeId} {a x : Operand} {N p e hi : Nat} {vs vs' cs : List Value} {fr1 : Fr} (hO : Own s0 s) (r : Row s.t s.next N vs e hi) (hN : s0.next ≤ N) (hw : Region.wanted o (yieldedL ops fr.tmps) = true) (ho : o.op = .store t a x) (hx : fr.eval a = .pointer (some ⟨N, p, none⟩)) (hv : cellsOf (fr.eval x) = cs)
    (hz : T.size t = some cs.length) (h0 : cs ≠ []) (hh : hi < END ∧ hi ≤ p ∧ p + cs.length ≤ vs.length ∧ cs.all oneCell = true) (hp : putAt vs p cs = vs') (hf : fr.put o.dst undef = fr1)
    (h : ∀ s1 : St, Own s0 s1 → s1.next = s.next → (∀ M, M ≠ N → s1.t.get M = s.t.get M) → Row s1.t s1.next N vs' e hi → (∀ z : St, Own z s → z.next ≤ N → Own z s1) → EndsOps T ops os fr1 s1 Q) : EndsOps T ops (o :: os) fr s Q := by
  subst hp
  have hc : noCall o.op = true := by rw [ho]; rfl
  have own : ∀ z : St, Own z s → z.next ≤ N → Own z { s with t := s.t.set N (some (.cells (putAt vs p cs) e hi)), mods := N :: s.mods } := fun z hz hzN =>
    Own.store hz hzN r.lt ⟨[N], rfl, fun M hM => by simpa using hM⟩ rfl fun M hM => Tree.get_set_ne _ _ hM
  refine EndsOps.plain1 hw (v := undef) (s1 := { s with t := s.t.set N (some (.cells (putAt vs p cs) e hi)), mods := N :: s.mods }) ?_ (noCall_ne hc) hf (h _ (own s0 hO hN) rfl (fun M hM => Tree.get_set_ne _ _ hM) ⟨Tree.get_set_same _ _ _, r.lt⟩ own)
  rw [ho]
  unfold evPlain
  cases hcs : cs with
  | nil => exact absurd hcs h0
  | cons c0 cr =>
    simp only [hx, addr, bnd, ret, storeVar, hz, hv, if_true]
    rw [← hcs]
    unfold storeCells
    rw [hcs]
    simp only [bnd, rowOf, r.get]
    rw [← hcs, if_pos hh]
    simp only [setB, r.get]
end
end Go.Ev
