/-
  EV: the rules of a printed walk, sixth part: what is written into a list that appends made.
-/
import Derived.Test.YtelpkdjibjddlaaEvDrawn
namespace Go.Ev
open Go Go.RowKit

theorem slice_iff {vs r : List Value} {o n : Nat} : Ev.slice vs o n = some r ↔ r.length = n ∧ ∀ j, j < n → vs[o + j]? = r[j]? := by
  unfold Ev.slice
  simp only
  constructor
  · intro h
    split at h
    · rename_i hl
      cases h
      refine ⟨hl, fun j hj => ?_⟩
      rw [List.getElem?_take_of_lt hj, List.getElem?_drop]
    · cases h
  · intro ⟨h1, h2⟩
    have e : (vs.drop o).take n = r := by
      refine List.ext_getElem? fun j => ?_
      by_cases hj : j < n
      · rw [List.getElem?_take_of_lt hj, List.getElem?_drop]; exact h2 j hj
      · rw [List.getElem?_eq_none (by rw [List.length_take]; omega), List.getElem?_eq_none (by omega)]
    rw [e, if_pos h1]
theorem putAt_left : ∀ (a b : List Value) (p : Nat) (cs : List Value), p + cs.length ≤ a.length → putAt (a ++ b) p cs = putAt a p cs ++ b := by
  intro a b p cs h
  refine List.ext_getElem? fun j => ?_
  have hl := putAt_length a p cs
  rw [putAt_get _ _ _ _ (by rw [List.length_append]; omega)]
  by_cases hj : j < a.length
  · rw [List.getElem?_append_left (by omega), List.getElem?_append_left (by omega), putAt_get _ _ _ _ h]
  · rw [if_neg (by omega), List.getElem?_append_right (by omega), List.getElem?_append_right (by omega), hl]
theorem putAt_right (a b : List Value) (p : Nat) (cs : List Value) (h : p + cs.length ≤ b.length) : putAt (a ++ b) (a.length + p) cs = a ++ putAt b p cs := by
  refine List.ext_getElem? fun j => ?_
  rw [putAt_get _ _ _ _ (by rw [List.length_append]; omega)]
  by_cases hj : j < a.length
  · rw [if_neg (by omega), List.getElem?_append_left hj, List.getElem?_append_left hj]
  · rw [List.getElem?_append_right (by omega), List.getElem?_append_right (by omega), putAt_get _ _ _ _ h]
    by_cases hc : p ≤ j - a.length ∧ j - a.length < p + cs.length
    · rw [if_pos hc, if_pos (by omega)]; congr 1; omega
    · rw [if_neg hc, if_neg (by omega)]
section
variable {α : Type} {c : α → List Value} {k : Nat}
theorem flat_set (hc : ∀ y, (c y).length = k) {of : Nat} {cs : List Value} (hof : of + cs.length ≤ k) : ∀ (l : List α) (i : Nat) (y y' : α), l[i]? = some y → putAt (c y) of cs = c y' → putAt (l.map c).flatten (i * k + of) cs = ((l.set i y').map c).flatten
  | [], i, y, y', h, _ => by simp at h
  | x :: l, 0, y, y', h, e => by
    simp at h; subst h
    simp only [List.map_cons, List.flatten_cons, List.set_cons_zero, Nat.zero_mul, Nat.zero_add]
    rw [putAt_left _ _ _ _ (by rw [hc]; omega), e]
  | x :: l, i + 1, y, y', h, e => by
    simp only [List.map_cons, List.flatten_cons, List.set_cons_succ]
    have hi : i < l.length := (List.getElem?_eq_some_iff.1 (by simpa using h)).1
    rw [show (i + 1) * k + of = (c x).length + (i * k + of) by rw [hc, Nat.succ_mul]; omega, putAt_right _ _ _ _ (by
      rw [flat_len hc]
      have : (i + 1) * k ≤ l.length * k := Nat.mul_le_mul_right _ hi
      rw [Nat.succ_mul] at this; omega), flat_set hc hof l i y y' (by simpa using h) e]
variable {el : TypeId} {lo len cap : Nat} {a : Option Addr} {l : List α} {t : Tree} {n : Nat}
/-- A list that appends made, as a slice of this address. -/
theorem OL.slA (h : OL c k el lo t n (.slice a len cap) l) (hc : ∀ y, (c y).length = k) : len = l.length ∧ ∃ N vs e hi, Sl c k t n a l N 0 vs e hi ∧ (l ≠ [] → lo ≤ N) ∧ Cp k a len cap := by
  obtain ⟨h1, h2⟩ := h
  rcases h2 with ⟨rfl, a', h, ha⟩ | ⟨N, h, h3, h4⟩
  · cases h
    refine ⟨rfl, 0, [], 0, 0, ⟨fun h => absurd rfl h, fun h => absurd rfl h, fun i x h => by simp at h, h1⟩, fun h => absurd rfl h, .inl ⟨by decide, Nat.le_refl _⟩, ?_⟩
    rcases ha with rfl | ⟨N, rfl⟩
    · exact .inl rfl
    · exact .inr ⟨N, 0, rfl⟩
  · cases h
    exact ⟨rfl, N, _, el, 0, ⟨fun _ => rfl, fun _ => h3, fun i y hy => by rw [Nat.zero_add]; exact flat_slice hc l i y hy, h1⟩, fun _ => h4, .inr rfl, .inr ⟨N, 0, rfl⟩⟩
theorem OL.opened {N e hi : Nat} {vs : List Value} (h : OL c k el lo t n (.slice a len cap) l) (H : Sl c k t n a l N 0 vs e hi) (hne : l ≠ []) : a = some ⟨N, 0, none⟩ ∧ len = l.length ∧ cap = END + k ∧ vs = (l.map c).flatten ∧ e = el ∧ hi = 0 ∧ lo ≤ N ∧ Row t n N ((l.map c).flatten) el 0 := by
  obtain ⟨h1, h2⟩ := h
  rcases h2 with ⟨h, _⟩ | ⟨M, h, h3, h4⟩
  · exact absurd h hne
  · cases h
    have := H.addr hne
    cases this
    have r := H.row hne
    have := r.get.symm.trans h3.get
    cases this
    exact ⟨rfl, rfl, rfl, rfl, rfl, rfl, h4, h3⟩
/-- What a store into such a list asks. -/
theorem OL.at {N e hi i p of m : Nat} {vs : List Value} {y : α} (h : OL c k el lo t n (.slice a len cap) l) (H : Sl c k t n a l N 0 vs e hi) (hc : ∀ y, (c y).length = k) (he : l[i]? = some y) (hp : p = 0 + i * k + of) (hof : of + m ≤ k) : Row t n N vs el 0 ∧ lo ≤ N ∧ 0 < END ∧ 0 ≤ p ∧ p + m ≤ vs.length := by
  have hne : l ≠ [] := by intro h0; subst h0; simp at he
  obtain ⟨_, _, _, h4, h5, h6, h7, h8⟩ := h.opened H hne
  subst h4 h5 h6
  have hi : i < l.length := (List.getElem?_eq_some_iff.1 he).1
  refine ⟨h8, h7, by decide, Nat.zero_le _, ?_⟩
  rw [flat_len hc]
  have : (i + 1) * k ≤ l.length * k := Nat.mul_le_mul_right _ hi
  rw [Nat.succ_mul] at this; omega
theorem OL.set {t' : Tree} {n' N e hi i p of : Nat} {vs cs : List Value} {y y' : α} (h : OL c k el lo t n (.slice a len cap) l) (H : Sl c k t n a l N 0 vs e hi) (hc : ∀ y, (c y).length = k) (he : l[i]? = some y) (hp : p = 0 + i * k + of) (hof : of + cs.length ≤ k) (hnew : putAt (c y) of cs = c y')
    (r : Row t' n' N (putAt vs p cs) el 0) : OL c k el lo t' n' (.slice a len cap) (l.set i y') ∧ Sl c k t' n' a (l.set i y') N 0 (putAt vs p cs) el 0 ∧ (l.set i y')[i]? = some y' := by
  have hne : l ≠ [] := by intro h0; subst h0; simp at he
  obtain ⟨h1, h2, h3, h4, h5, h6, h7, h8⟩ := h.opened H hne
  subst h1 h2 h3 h4 h5 h6
  have e : putAt (l.map c).flatten p cs = ((l.set i y').map c).flatten := by
    rw [hp, Nat.zero_add]; exact flat_set hc hof l i y y' he hnew
  have hi : i < l.length := (List.getElem?_eq_some_iff.1 he).1
  rw [e] at r ⊢
  have hl : l.length < 4611686018427387904 := H.small
  refine ⟨⟨by rw [List.length_set]; exact hl, .inr ⟨N, by rw [List.length_set], r, h7⟩⟩, ⟨fun _ => rfl, fun _ => r, fun j y hy => by rw [Nat.zero_add]; exact flat_slice hc _ j y hy, by rw [List.length_set]; exact hl⟩, ?_⟩
  rw [List.getElem?_set_self hi]
/-- What lies behind is cleared. -/
theorem OL.cut {t' : Tree} {n' N e hi i : Nat} {vs cs : List Value} (h : OL c k el lo t n (.slice a len cap) l) (H : Sl c k t n a l N 0 vs e hi) (hc : ∀ y, (c y).length = k) (hi : i < l.length) (hcs : cs.length = (l.length - i) * k)
    (r : Row t' n' N (putAt vs (0 + i * k) cs) el 0) : Sl c k t' n' a (l.take i) N 0 (putAt vs (0 + i * k) cs) el 0 := by
  have hne : l ≠ [] := by intro h0; subst h0; simp at hi
  obtain ⟨h1, h2, h3, h4, h5, h6, h7, h8⟩ := h.opened H hne
  subst h1 h2 h3 h4 h5 h6
  refine ⟨fun _ => rfl, fun _ => r, fun j y hy => ?_, by rw [List.length_take]; have := H.small; omega⟩
  have hj : j < i := by
    have := (List.getElem?_eq_some_iff.1 hy).1
    rw [List.length_take] at this; omega
  rw [List.getElem?_take_of_lt hj] at hy
  obtain ⟨g1, g2⟩ := slice_iff.1 (H.get j y hy)
  refine slice_iff.2 ⟨g1, fun q hq => ?_⟩
  have hm : (j + 1) * k ≤ i * k := Nat.mul_le_mul_right _ hj
  rw [Nat.succ_mul] at hm
  have hm2 : l.length * k = i * k + (l.length - i) * k := by rw [← Nat.add_mul]; congr 1; omega
  rw [putAt_get _ _ _ _ (by rw [flat_len hc, hcs]; omega), if_neg (by omega)]
  exact g2 q hq
end
theorem store_ev {T : Tab} {ρ : Operand → Value} {s : St} {t : TypeId} {a x : Operand} {N p e hi : Nat} {vs cs : List Value} (r : Row s.t s.next N vs e hi) (hx : ρ a = .pointer (some ⟨N, p, none⟩)) (hv : cellsOf (ρ x) = cs)
    (hz : T.size t = some cs.length) (h0 : cs ≠ []) (hh : hi < END ∧ hi ≤ p ∧ p + cs.length ≤ vs.length ∧ cs.all oneCell = true) : evPlain T ρ (.store t a x) s = some (undef, { s with t := s.t.set N (some (.cells (putAt vs p cs) e hi)), mods := N :: s.mods }) := by
  unfold evPlain
  cases hcs : cs with
  | nil => exact absurd hcs h0
  | cons c0 cr =>
    simp only [hx, addr, bnd, ret, storeVar, hz, hv, if_true]
    rw [← hcs]
    unfold storeCells
    rw [hcs]
    simp only [bnd, rowOf, r.get]
    rw [← hcs, if_pos hh]
    simp only [setB, r.get]
section
variable {T : Tab} {cx : Ctx} {fr : Fr} {s s0 : St} {ops : Array Oper} {bef : List Nat} {i : Nat} {o : Oper} {os : List Oper} {L : List (Nat × Nat × Nat)} {Q : Fr → St → Prop}
/-- A store in a region that draws its order, ordered with all before it. -/
theorem E.store {t : TypeId} {a x : Operand} {N p e hi : Nat} {vs vs' cs : List Value} {fr1 : Fr} (hO : Own s0 s) (r : Row s.t s.next N vs e hi) (hN : s0.next ≤ N) (hw : Region.wanted o (yieldedL ops fr.tmps) = true) (ho : o.op = .store t a x) (hx : fr.eval a = .pointer (some ⟨N, p, none⟩)) (hv : cellsOf (fr.eval x) = cs)
    (hz : T.size t = some cs.length) (h0 : cs ≠ []) (hh : hi < END ∧ hi ≤ p ∧ p + cs.length ≤ vs.length ∧ cs.all oneCell = true) (hp : putAt vs p cs = vs') (hf : fr.put o.dst undef = fr1) (hhid : hidL (bef.getD i 0) L = []) (hbits : ∀ j, j < i → (bef.getD i 0).testBit j = true)
    (h : ∀ s1 : St, Own s0 s1 → s1.next = s.next → (∀ M, M ≠ N → s1.t.get M = s.t.get M) → Row s1.t s1.next N vs' e hi → (∀ z : St, Own z s → z.next ≤ N → Own z s1) → EndsF T ops bef (i + 1) os fr1 s1 Q) : EndsE T ops bef i (o :: os) L fr s Q := fun ds g1 g2 g3 => by
  subst hp
  have hc : noCall o.op = true := by rw [ho]; rfl
  have hn : hiddenOf (bef.getD i 0) ds = [] := List.eq_nil_iff_forall_not_mem.2 fun p hp => by
    have := g2 _ p hp
    rw [hhid] at this; cases this
  have r' : Row (⟨s.t, s.next, []⟩ : St).t s.next N vs e hi := r
  refine EndsDraw.write (v := undef) (N := N) (b := .cells (putAt vs p cs) e hi) hw (by unfold kindOf; rw [ho]) hc (by unfold blkOf; rw [ho]) hn (List.all_eq_true.2 fun p hp => hbits _ (g3 p hp)) ?_ r.lt (by rw [r.get]; rfl) hf fun s1 k1 k2 k3 k4 => ?_
  · rw [ho]; exact store_ev (s := ⟨s.t, s.next, []⟩) r' hx hv hz h0 hh
  · have own : ∀ z : St, Own z s → z.next ≤ N → Own z s1 := fun z hz hzN => Own.store hz hzN r.lt ⟨[N], k2, fun M hM => by simpa using hM⟩ k1 k4
    exact h s1 (own s0 hO hN) k1 k4 ⟨k3, k1 ▸ r.lt⟩ own _
/-- The end of a list that appends made is cleared. -/
theorem W.clearE {α : Type} {c : α → List Value} {k : Nat} {el ty : TypeId} {a : Option Addr} {l : List α} {N e hi m len cap len2 cap2 : Nat} {vs : List Value} {x : Operand} {z : Value} {fr1 : Fr} (hO : Own s0 s) (hl : OL c k el s0.next s.t s.next (.slice a len cap) l) (H : Sl c k s.t s.next a l N 0 vs e hi) (hc : ∀ y, (c y).length = k)
    (hw : Region.wanted o (yieldedL ops fr.tmps) = true) (ho : o.op = .call ⟨.builtin .clear, #[x], #[ty]⟩) (hx : fr.eval x = .slice (some ⟨N, m * k, none⟩) len2 cap2) (hm : m < l.length) (hl2 : len2 = l.length - m) (hk0 : 0 < k) (hu : T.und ty = some (.slice el)) (hzz : T.zero el = some z) (hs : T.size el = some k) (hzk : (cellsOf z).length = k) (hone : (cellsOf z).all oneCell = true)
    (hf : fr.put o.dst (.tuple #[]) = fr1) (h : ∀ s1 vs' : _, Own s0 s1 → s1.next = s.next → Sl c k s1.t s1.next a (l.take m) N 0 vs' el 0 → EndsOps T ops os fr1 s1 Q) : EndsOps T ops (o :: os) fr s Q := by
  have hne : l ≠ [] := by intro h0; subst h0; simp at hm
  obtain ⟨h1, h2, h3, h4, h5, h6, h7, h8⟩ := hl.opened H hne
  have hc' : noCall o.op = true := by rw [ho]; rfl
  obtain ⟨q, hq⟩ : ∃ q, len2 = q + 1 := ⟨len2 - 1, by omega⟩
  have hrl : ∀ n, (rep n (cellsOf z)).length = n * k := fun n => by
    induction n with
    | zero => simp [rep]
    | succ n ih => simp only [rep, List.length_append, ih, hzk, Nat.succ_mul]; omega
  have hra : ∀ n, (rep n (cellsOf z)).all oneCell = true := fun n => by
    induction n with
    | zero => simp [rep]
    | succ n ih => simp only [rep, List.all_append, ih, hone, Bool.and_self]
  have hm2 : l.length * k = m * k + len2 * k := by rw [← Nat.add_mul]; congr 1; omega
  have hlv : vs.length = l.length * k := by rw [h4]; exact flat_len hc l
  have r := H.row hne
  have hz0 : rep len2 (cellsOf z) ≠ [] := by
    intro h0
    have := hrl len2
    rw [h0, hq, Nat.succ_mul] at this; simp at this; omega
  have hh : hi < END ∧ hi ≤ m * k ∧ m * k + (rep len2 (cellsOf z)).length ≤ vs.length ∧ (rep len2 (cellsOf z)).all oneCell = true := ⟨by rw [h6]; decide, by omega, by rw [hrl]; omega, hra _⟩
  have ev : evPlain T fr.eval o.op s = some (.tuple #[], { s with t := s.t.set N (some (.cells (putAt vs (m * k) (rep len2 (cellsOf z))) e hi)), mods := N :: s.mods }) := by
    rw [ho]
    show Ev.clear T [ty] [fr.eval x] s = _
    unfold Ev.clear
    simp only [hu, hx]
    rw [hq]
    simp only [zeros, hzz, hs, hzk, if_true, bnd]
    rw [← hq]
    generalize rep len2 (cellsOf z) = zs at hz0 hh
    cases zs with
    | nil => exact absurd rfl hz0
    | cons z0 zr =>
      simp only [storeCells, bnd, rowOf, r.get]
      rw [if_pos hh]
      simp only [setB, r.get, ret]
  have own : Own s0 { s with t := s.t.set N (some (.cells (putAt vs (m * k) (rep len2 (cellsOf z))) e hi)), mods := N :: s.mods } :=
    Own.store hO h7 r.lt ⟨[N], rfl, fun M hM => by simpa using hM⟩ rfl fun M hM => Tree.get_set_ne _ _ hM
  have row : Row (s.t.set N (some (.cells (putAt vs (m * k) (rep len2 (cellsOf z))) e hi))) s.next N (putAt vs (0 + m * k) (rep len2 (cellsOf z))) el 0 := by
    rw [Nat.zero_add, ← h5]
    rw [h6]
    exact ⟨Tree.get_set_same _ _ _, r.lt⟩
  refine EndsOps.plain1 hw ev (noCall_ne hc') hf (h _ _ own rfl (OL.cut hl H hc hm (by rw [hrl, hl2]) row))
end
/-- The rest of a list that appends made. -/
theorem p_dropOL {T : Tab} {ρ : Operand → Value} {s : St} {ty el : TypeId} {N len i k : Nat} {a : Option Addr} {cap : Nat} {x h : Operand} (hx : ρ x = .slice a len cap) (ha : a = some ⟨N, 0, none⟩) (hcap : cap = END + k) (hh : ρ h = .int .i64 ((i : Nat) : Int)) (hu : T.und ty = some (.slice el)) (hs : T.size el = some k) (hi : i < len) :
    evPlain T ρ (.slice ty x (some h) none none) s = some (.slice (some ⟨N, i * k, none⟩) (len - i) (END + k), s) := by
  subst ha hcap
  unfold evPlain
  have e : sliceOp T ty (.slice (some ⟨N, 0, none⟩) len (END + k)) (some (.int .i64 ((i : Nat) : Int))) none none = some (.slice (some ⟨N, i * k, none⟩) (len - i) (END + k)) := by
    unfold sliceOp
    simp only [hu, hs, bound]
    rw [if_pos (by omega : (0 : Int) ≤ i)]
    simp only [Int.toNat_natCast]
    rw [if_pos (by omega), if_pos ⟨trivial, by omega, Nat.le_refl _⟩, if_pos hi]
    simp
  simp only [Option.isSome_none, Option.isNone_none, Bool.false_and, Bool.and_false, Bool.false_eq_true, if_false, Option.map_none, Option.map_some, hx, hh, e, lift]
theorem ne_nil_at {α : Type} {l : List α} {i : Nat} {y : α} (h : l[i]? = some y) : l ≠ [] := by intro h0; subst h0; simp at h
theorem Sl.ixL {α : Type} {c : α → List Value} {k : Nat} {a : Option Addr} {l : List α} {N o e hi len : Nat} {vs : List Value} {t : Tree} {n : Nat} (hlen : l.length = len) (h : Sl c k t n a l N o vs e hi) {T : Tab} {ty el : TypeId} (hu : T.und ty = some (.slice el)) (hs : T.size el = some k) {i : Nat} {x : α} (hx : l[i]? = some x) (cap : Nat) :
    indexAddr T ty (.slice a len cap) (.int .i64 i) = some (.pointer (some ⟨N, o + i * k, none⟩)) := by subst hlen; exact Sl.ix h hu hs hx cap
end Go.Ev

