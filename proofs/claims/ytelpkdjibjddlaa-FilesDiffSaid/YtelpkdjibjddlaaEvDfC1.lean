/-
  EV: the layer edit: the plain law: both ways to apply a list make the same text; what leads back is right where no two places are one.
-/
import Derived.Test.YtelpkdjibjddlaaEvRead2
import Derived.Test.YtelpkdjibjddlaaEvC2
import Derived.Test.YtelpkdjibjddlaaEvDfB1
namespace Go.Ev
open Go

theorem list_same {a b : List Ed} {i : Nat} (hl : a.length = b.length) (h : ∀ k, k < i → a[k]? = b[k]?) (hi : a.length ≤ i) : a = b := by
  refine List.ext_getElem? fun k => ?_
  by_cases hk : k < i
  · exact h k hk
  · rw [List.getElem?_eq_none (by omega), List.getElem?_eq_none (by omega)]
theorem same_step {a b : List Ed} {i : Nat} {x y : Ed} (h : ∀ k, k < i → a[k]? = b[k]?) (hx : a[i]? = some x) (hy : b[i]? = some y) (he : x.lo = y.lo ∧ x.hi = y.hi ∧ B x.tx = B y.tx) : ∀ k, k < i + 1 → a[k]? = b[k]? := fun k hk => by
  by_cases hki : k = i
  · subst hki
    rw [hx, hy]
    obtain ⟨a1, a2, a3⟩ := x
    obtain ⟨b1, b2, b3⟩ := y
    obtain ⟨h1, h2, h3⟩ := he
    have := B_inj h3
    simp only at h1 h2 this
    subst h1 h2 this; rfl
  · exact h k (by omega)
theorem inv_pre (x : ByteArray) : ∀ (l : List Ed) (p : List Ed × Int), ∃ r, (l.foldl (invStep x) p).1 = p.1 ++ r
  | [], p => ⟨[], by simp⟩
  | e :: l, p => by
    obtain ⟨r, hr⟩ := inv_pre x l (invStep x p e)
    refine ⟨(invStep x ([], p.2) e).1 ++ r, ?_⟩
    rw [List.foldl_cons, hr]
    simp [invStep]
theorem inv_take (x : ByteArray) (l : List Ed) (i : Nat) : ∃ r, invS x l = (invF x (l.take i)).1 ++ r := by
  unfold invS invF
  conv => enter [1, r, 1]; rw [← List.take_append_drop i l, List.foldl_append]
  exact inv_pre x _ _
theorem inv_old {x : ByteArray} {l : List Ed} {i q : Nat} {a : Ed} (hq : q < i) (hi : i ≤ l.length) (h : (invF x (l.take i)).1[q]? = some a) : (invS x l)[q]? = some a := by
  obtain ⟨r, hr⟩ := inv_take x l i
  rw [hr, List.getElem?_append_left (by rw [invF_len' hi]; exact hq)]; exact h
theorem inv_at {x : ByteArray} {l : List Ed} {i : Nat} {e : Ed} (he : l[i]? = some e) : (invS x l)[i]? = some ⟨W (e.lo + (invF x (l.take i)).2), W (W (e.lo + (invF x (l.take i)).2) + (((B e.tx).length : Nat) : Int)), sub x e.lo.toNat e.hi.toNat⟩ := by
  have hi := (List.getElem?_eq_some_iff.1 he).1
  refine inv_old (i := i + 1) (Nat.lt_succ_self i) hi ?_
  rw [invF_step he]
  show ((invF x (l.take i)).1 ++ [_])[i]? = _
  rw [List.getElem?_append_right (by rw [invF_len' (by omega)]; exact Nat.le_refl _), invF_len' (by omega), Nat.sub_self]; rfl
theorem NoTwin.step0 {L : List Ed} {i : Nat} (_ : NoTwin L i) (h0 : i = 0) : NoTwin L (i + 1) := fun k hk e a _ h => by omega
theorem NoTwin.step {L : List Ed} {i q : Nat} {e a : Ed} (h : NoTwin L i) (he : L[i]? = some e) (ha : L[q]? = some a) (hq : i = q + 1) (hne : ¬ a.lo = e.lo) : NoTwin L (i + 1) := fun k hk e' a' he' h0 ha' => by
  by_cases hki : k = i
  · subst hki; rw [he] at he'; cases he'; rw [show k - 1 = q by omega, ha] at ha'; cases ha'; exact hne
  · exact h k (by omega) e' a' he' h0 ha'
/-! Both ways to apply. -/
def appR (x : ByteArray) : List Ed → Int → List UInt8
  | [], a => (B x).drop a.toNat
  | e :: r, a => ((B x).drop a.toNat).take (e.lo.toNat - a.toNat) ++ B e.tx ++ appR x r e.hi
theorem ap_R (x : ByteArray) : ∀ (l : List Ed) (p : List UInt8) (a : Int), (l.foldl (apStep x) (p, a)).1 ++ B (sub x (l.foldl (apStep x) (p, a)).2.toNat (B x).length) = p ++ appR x l a
  | [], p, a => by
    simp only [List.foldl_nil, B_sub, appR]
    rw [List.take_of_length_le (by rw [List.length_drop]; exact Nat.le_refl _)]
  | e :: r, p, a => by
    have := ap_R x r (p ++ B (sub x a.toNat e.lo.toNat) ++ B e.tx) e.hi
    simp only [List.foldl_cons, apStep] at this ⊢
    rw [this]
    simp only [appR, B_sub, List.append_assoc]
theorem rap_R (x : ByteArray) : ∀ (l : List Ed) (a : Int), 0 ≤ a → Chain l a (((B x).length : Nat) : Int) → B (rapS x l) = (B x).take a.toNat ++ appR x l a
  | [], a, h0, hc => by simp [rapS, appR]
  | e :: r, a, h0, hc => by
    obtain ⟨c1, c2, c3, c4⟩ := hc
    have ih := rap_R x r e.hi (by omega) c4
    show B (rapStep e (rapS x r)) = _
    have hl1 : ((B x).take e.hi.toNat).length = e.hi.toNat := by rw [List.length_take]; omega
    have e1 : (B (rapS x r)).take e.lo.toNat = (B x).take e.lo.toNat := by
      rw [ih, List.take_append_of_le_length (by omega), List.take_take, Nat.min_eq_left (by omega)]
    have e2 : (B (rapS x r)).drop e.hi.toNat = appR x r e.hi := by
      rw [ih, List.drop_left' hl1]
    have e3 : (B x).take e.lo.toNat = (B x).take a.toNat ++ ((B x).drop a.toNat).take (e.lo.toNat - a.toNat) := by
      rw [← List.take_add]; congr 1; omega
    unfold rapStep
    rw [B_cat, B_cat, B_sub, B_sub, List.drop_zero, Nat.sub_zero, e1, e2]
    have e4 : (appR x r e.hi).take ((B (rapS x r)).length - e.hi.toNat) = appR x r e.hi := by
      refine List.take_of_length_le ?_
      rw [← e2, List.length_drop]; exact Nat.le_refl _
    rw [e4, e3]
    simp only [appR, List.append_assoc]
theorem ap_eq {x : ByteArray} {l : List Ed} (hR : Right l (((B x).length : Nat) : Int)) : apS x l = rapS x l := by
  refine B_inj ?_
  rw [rap_R x l 0 (by omega) hR.chain]
  have := ap_R x l [] 0
  rw [List.nil_append] at this
  simpa [apS, apF, B] using this

/-! What leads back. -/
section
variable {l : List Ed} {n : Int} (hR : Right l n)
include hR
theorem at_le {k : Nat} {e : Ed} (he : l[k]? = some e) : (fromF (l.take k)).2 ≤ e.lo := by
  cases k with
  | zero => exact (hR.2 0 (List.getElem?_eq_some_iff.1 he).1 e he).1.1
  | succ j =>
    have hl := (List.getElem?_eq_some_iff.1 he).1
    obtain ⟨a, ha⟩ := ex_at (l := l) (i := j) (by omega)
    rw [fromF_step ha]
    exact (hR.at he ha rfl).1
theorem pos_all : ∀ k, k ≤ l.length → 0 ≤ (fromF (l.take k)).2 ∧ (fromF (l.take k)).2 ≤ n ∧ 0 ≤ (fromF (l.take k)).2 + growS (l.take k) ∧ growS (l.take k) ≤ sumT (l.take k)
  | 0, _ => ⟨Int.le_refl _, hR.1, Int.le_refl _, by simp [growS, sumT]⟩
  | k + 1, h => by
    obtain ⟨e, he⟩ := ex_at (l := l) (i := k) (by omega)
    obtain ⟨h1, h2, h3, h4⟩ := pos_all k (by omega)
    have hw := (hR.2 k (by omega) e he).1
    have ha := at_le hR he
    have hs := sumT_step he
    have e1 : (fromF (l.take (k + 1))).2 = e.hi := by rw [fromF_step he]; rfl
    rw [e1, growS_step he]
    refine ⟨by omega, by omega, by omega, ?_⟩
    rw [hs]; push_cast; omega
theorem pos_step {k : Nat} {e : Ed} (he : l[k]? = some e) : e.lo + growS (l.take k) + ((B e.tx).length : Int) = (fromF (l.take (k + 1))).2 + growS (l.take (k + 1)) := by
  have _ := hR
  rw [growS_step he, fromF_step he]
  show _ = e.hi + _
  omega
theorem pos_mono : ∀ j k, k + j ≤ l.length → (fromF (l.take k)).2 + growS (l.take k) ≤ (fromF (l.take (k + j))).2 + growS (l.take (k + j))
  | 0, k, _ => Int.le_refl _
  | j + 1, k, h => by
    have h1 := pos_mono j k (by omega)
    obtain ⟨e, he⟩ := ex_at (l := l) (i := k + j) (by omega)
    have h2 := pos_step hR he
    have h3 := at_le hR he
    rw [← Nat.add_assoc, ← h2]; omega
end
theorem inv_iff {x : ByteArray} {l : List Ed} (hS : (B x).length + sumT l ≤ 1000000) (hB : l.length ≤ 1000) (h0 : mayC (B x).length l = 0) : Right (invS x l) (W ((((B x).length : Nat) : Int) + W (growS l))) ↔ NoTwin (invS x l) l.length := by
  have hR := (may0 h0).1
  have hlen : (invS x l).length = l.length := by have := invF_len' (x := x) (Nat.le_refl l.length); rwa [List.take_length] at this
  have hall := pos_all hR l.length (Nat.le_refl _)
  rw [List.take_length] at hall
  obtain ⟨a1, a2, a3, a4⟩ := hall
  have w1 : W (growS l) = growS l := W_id (by omega) (by omega)
  have w2 : W ((((B x).length : Nat) : Int) + growS l) = ((B x).length : Int) + growS l := W_id (by omega) (by omega)
  rw [w1, w2]
  -- what stands at each place
  have each : ∀ k e, l[k]? = some e → ∃ E : Ed, (invS x l)[k]? = some E ∧ E.lo = e.lo + growS (l.take k) ∧ E.hi = e.lo + growS (l.take k) + ((B e.tx).length : Int) := fun k e he => by
    have hk := (List.getElem?_eq_some_iff.1 he).1
    obtain ⟨b1, b2, b3, b4⟩ := pos_all hR k (by omega)
    have hw := (hR.2 k hk e he).1
    have ha := at_le hR he
    have hT := sumT_le l k
    have hE := sumT_get he
    refine ⟨_, inv_at he, ?_, ?_⟩
    · rw [invF_by (by omega), W_id (x := growS (l.take k)) (by omega) (by omega)]
      exact W_id (by omega) (by omega)
    · simp only
      rw [invF_by (by omega), W_id (x := growS (l.take k)) (by omega) (by omega), W_id (x := e.lo + growS (l.take k)) (by omega) (by omega)]
      exact W_id (by omega) (by omega)
  have step : ∀ k e a, l[k + 1]? = some e → l[k]? = some a → a.lo + growS (l.take k) + ((B a.tx).length : Int) ≤ e.lo + growS (l.take (k + 1)) := fun k e a he ha => by
    have h1 := pos_step hR ha
    have h2 := at_le hR he
    rw [h1]; omega
  constructor
  · intro hI k hk e a he h0' ha
    have := (hI.2 k (by omega) e he).2 a h0' ha
    exact Int.ne_of_lt this.2
  · intro hN
    refine ⟨by omega, fun k hk E hE => ?_⟩
    obtain ⟨e, he⟩ := ex_at (l := l) (i := k) (by omega)
    obtain ⟨E', h1, h2, h3⟩ := each k e he
    rw [h1] at hE; cases hE
    obtain ⟨b1, b2, b3, b4⟩ := pos_all hR k (by omega)
    have ha := at_le hR he
    have hst := pos_step hR he
    have hm := pos_mono hR (l.length - (k + 1)) (k + 1) (by omega)
    rw [show k + 1 + (l.length - (k + 1)) = l.length by omega, List.take_length] at hm
    refine ⟨⟨by omega, by omega, by omega⟩, fun A hk0 hA => ?_⟩
    obtain ⟨j, rfl⟩ : ∃ j, k = j + 1 := ⟨k - 1, by omega⟩
    rw [Nat.add_sub_cancel] at hA
    obtain ⟨a, ha'⟩ := ex_at (l := l) (i := j) (by omega)
    obtain ⟨A', g1, g2, g3⟩ := each j a ha'
    rw [g1] at hA; cases hA
    have hs := step j e a he ha'
    have hne := hN (j + 1) (by omega) _ _ h1 (by omega) (by rw [Nat.add_sub_cancel]; exact g1)
    exact ⟨by omega, by omega⟩
end Go.Ev

/-
  EV: contracts of the first seat's functions.
-/
namespace Go.Ev.R1.Q
open Go Go.Ev Go.Ev.R1 Go.Proofs
set_option maxRecDepth 10000
set_option maxHeartbeats 4000000

theorem eq97 (a b c d : Int) (x y : ByteArray) : equalF R1.T 50 97 (.agg ⟨[.int .i64 a, .int .i64 b, .string x]⟩) (.agg ⟨[.int .i64 c, .int .i64 d, .string y]⟩) = (match some (a == c) with | some true => (match some (b == d) with | some true => (match some (x.data.toList == y.data.toList) with | some true => some true | r => r) | r => r) | r => r) := by kernel_rfl
theorem ne97 (a b c d : Int) (x y : ByteArray) (z : Bool) : binop R1.T .neq 97 z (.agg ⟨[.int .i64 a, .int .i64 b, .string x]⟩) (.agg ⟨[.int .i64 c, .int .i64 d, .string y]⟩) = (equalF R1.T 50 97 (.agg ⟨[.int .i64 a, .int .i64 b, .string x]⟩) (.agg ⟨[.int .i64 c, .int .i64 d, .string y]⟩)).map fun b => Value.bool (!b) := rfl
theorem ed97neqT {a b c d : Int} {x y : ByteArray} {z : Bool} (h : a = c ∧ b = d ∧ B x = B y) : binop R1.T .neq 97 z (.agg ⟨[.int .i64 a, .int .i64 b, .string x]⟩) (.agg ⟨[.int .i64 c, .int .i64 d, .string y]⟩) = some (.bool false) := by
  have h3 : x.data.toList = y.data.toList := h.2.2
  rw [ne97, eq97]; simp [h.1, h.2.1, h3]
theorem ed97neqF {a b c d : Int} {x y : ByteArray} {z : Bool} (h : ¬ (a = c ∧ b = d ∧ B x = B y)) : binop R1.T .neq 97 z (.agg ⟨[.int .i64 a, .int .i64 b, .string x]⟩) (.agg ⟨[.int .i64 c, .int .i64 d, .string y]⟩) = some (.bool true) := by
  rw [ne97, eq97]
  by_cases h1 : a = c
  · by_cases h2 : b = d
    · have h3 : ¬ x.data = y.data := fun h3 => h ⟨h1, h2, congrArg Array.toList h3⟩
      simp [h1, h2, h3]
    · simp [h1, h2]
  · simp [h1]

theorem c33 (aa : Option Addr) (a : List Ed) (ca Na oa : Nat) (va : List Value) (ya za : Nat) (ab : Option Addr) (b : List Ed) (cb Nb ob : Nat) (vb : List Value) (yb zb : Nat) (s : St) (Ha : Sl Ed.cells 3 s.t s.next aa a Na oa va ya za) (Hb : Sl Ed.cells 3 s.t s.next ab b Nb ob vb yb zb)  : EndsPure R1.T 33 [.slice aa a.length ca, .slice ab b.length cb] s (fun v _ _ => v = .bool (decide (a = b))) := by
  refine EndsPure.of (rs := [4]) (fr0 := ⟨[.slice aa a.length ca, .slice ab b.length cb, undef, undef, undef, undef, undef, undef, undef, undef, undef, undef, undef, undef, undef, undef, undef, undef, undef, undef, undef, undef, undef, undef, undef, undef], []⟩) (by kernel_rfl : R1.T.fn 33 = some ⟨26, (Try.f33.body).getD .skip, [.tmp 4]⟩) rfl ?_
  have hO0 := Own.refl s
  have Ma := Ha.small
  have Mb := Hb.small
  simp only [Try.f33, Option.getD]
  refine Ends.seq ?_
  refine Ends.region ?_
  refine W.op (v := .bool false) (fr1 := ⟨[_,_,_,_, .bool false, _,_,_,_,_,_,_,_,_,_,_,_,_,_,_,_,_,_,_,_,_], []⟩) rfl rfl rfl rfl ?_
  refine EndsOps.nil ?_
  refine Ends.seq ?_
  refine Ends.seq ?_
  refine Ends.region ?_
  refine W.op (v := .slice aa a.length ca) (fr1 := ⟨[_,_,_,_,_,_, .slice aa a.length ca, _,_,_,_,_,_,_,_,_,_,_,_,_,_,_,_,_,_,_], []⟩) rfl rfl rfl rfl ?_
  refine W.op (v := .int .i64 ((a.length : Nat) : Int)) (fr1 := ⟨[_,_,_,_,_,_,_, .int .i64 ((a.length : Nat) : Int), _,_,_,_,_,_,_,_,_,_,_,_,_,_,_,_,_,_], []⟩) rfl rfl rfl rfl ?_
  refine W.op (v := .slice ab b.length cb) (fr1 := ⟨[_,_,_,_,_,_,_,_, .slice ab b.length cb, _,_,_,_,_,_,_,_,_,_,_,_,_,_,_,_,_], []⟩) rfl rfl rfl rfl ?_
  refine W.op (v := .int .i64 ((b.length : Nat) : Int)) (fr1 := ⟨[_,_,_,_,_,_,_,_,_, .int .i64 ((b.length : Nat) : Int), _,_,_,_,_,_,_,_,_,_,_,_,_,_,_,_], []⟩) rfl rfl rfl rfl ?_
  by_cases h1 : ((a.length : Nat) : Int) = ((b.length : Nat) : Int)
  · skip
    refine W.op (v := .bool false) (fr1 := ⟨[_,_,_,_,_,_,_,_,_,_, .bool false, _,_,_,_,_,_,_,_,_,_,_,_,_,_,_], []⟩) rfl (p_bin (neF h1)) rfl rfl ?_
    refine EndsOps.nil ?_
    refine Ends.condF rfl ?_
    refine Ends.skip ?_
    refine Ends.seq ?_
    refine Ends.seq ?_
    refine Ends.region ?_
    refine W.op (v := .slice aa a.length ca) (fr1 := ⟨[_,_,_,_,_,_,_,_,_,_,_, .slice aa a.length ca, _,_,_,_,_,_,_,_,_,_,_,_,_,_], []⟩) rfl rfl rfl rfl ?_
    refine W.op (v := .int .i64 ((a.length : Nat) : Int)) (fr1 := ⟨[_,_,_,_,_,_,_,_,_,_,_,_, .int .i64 ((a.length : Nat) : Int), _,_,_,_,_,_,_,_,_,_,_,_,_], []⟩) rfl rfl rfl rfl ?_
    refine W.op (v := .int .i64 0) (fr1 := ⟨[_,_,_,_,_,_,_,_,_,_,_,_,_, .int .i64 0, _,_,_,_,_,_,_,_,_,_,_,_], []⟩) rfl rfl rfl rfl ?_
    refine EndsOps.nil ?_
    refine W.block ?_
    refine Ends.loopInv (fun d fr s1 => ∃ (i : Nat) (j4 j5 j14 j15 j16 j17 j18 j19 j20 j21 j22 j23 j24 j25 : Value), fr = ⟨[.slice aa a.length ca, .slice ab b.length cb, undef, undef, j4, j5, .slice aa a.length ca, .int .i64 ((a.length : Nat) : Int), .slice ab b.length cb, .int .i64 ((b.length : Nat) : Int), .bool false, .slice aa a.length ca, .int .i64 ((a.length : Nat) : Int), .int .i64 ((i : Nat) : Int), j14, j15, j16, j17, j18, j19, j20, j21, j22, j23, j24, j25], []⟩ ∧ Own s s1 ∧ d = a.length - i ∧ (i ≤ a.length) ∧ (∀ k, k < i → a[k]? = b[k]?)) ?_ _ _ _ ⟨0, _, _, _, _, _, _, _, _, _, _, _, _, _, _, rfl, hO0, rfl, Nat.zero_le _, fun k hk => absurd hk (Nat.not_lt_zero k)⟩
    rintro d _ s2 ⟨i, j4, j5, j14, j15, j16, j17, j18, j19, j20, j21, j22, j23, j24, j25, rfl, hO3, hd4, hi, hE⟩
    refine Ends.seq ?_
    refine Ends.region ?_
    by_cases h5 : ((i : Nat) : Int) < ((a.length : Nat) : Int)
    · skip
      refine W.op (v := .bool true) (fr1 := ⟨[_,_,_,_,_,_,_,_,_,_,_,_,_,_, .bool true, _,_,_,_,_,_,_,_,_,_,_], []⟩) rfl (p_bin (ltT h5)) rfl rfl ?_
      refine EndsOps.nil ?_
      refine Ends.seq ?_
      refine Ends.condT rfl ?_
      refine Ends.skip ?_
      refine Ends.seq ?_
      refine W.block ?_
      refine Ends.seq ?_
      refine Ends.region ?_
      refine W.op (v := .int .i64 ((i : Nat) : Int)) (fr1 := ⟨[_,_,_,_,_,_,_,_,_,_,_,_,_,_,_, .int .i64 ((i : Nat) : Int), _,_,_,_,_,_,_,_,_,_], []⟩) rfl rfl rfl rfl ?_
      refine W.op (v := .int .i64 ((i : Nat) : Int)) (fr1 := ⟨[_,_,_,_,_, .int .i64 ((i : Nat) : Int), _,_,_,_,_,_,_,_,_,_,_,_,_,_,_,_,_,_,_,_], []⟩) rfl rfl rfl rfl ?_
      refine EndsOps.nil ?_
      refine Ends.seq ?_
      refine Ends.drawW (bef := [0, 0, 3, 7, 0, 0, 48, 112, 255]) (by kernel_rfl) ?_
      refine D.op (v := .slice aa a.length ca) (fr1 := ⟨[_,_,_,_,_,_,_,_,_,_,_,_,_,_,_,_, .slice aa a.length ca, _,_,_,_,_,_,_,_,_], []⟩) rfl rfl rfl rfl rfl ?_
      refine D.op (v := .int .i64 ((i : Nat) : Int)) (fr1 := ⟨[_,_,_,_,_,_,_,_,_,_,_,_,_,_,_,_,_, .int .i64 ((i : Nat) : Int), _,_,_,_,_,_,_,_], []⟩) rfl rfl rfl rfl rfl ?_
      obtain ⟨e6, he7⟩ := ex_at (l := a) (i := i) (by omega)
      refine D.op (v := .pointer (some ⟨Na, oa + i * 3, none⟩)) (fr1 := ⟨[_,_,_,_,_,_,_,_,_,_,_,_,_,_,_,_,_,_, .pointer (some ⟨Na, oa + i * 3, none⟩), _,_,_,_,_,_,_], []⟩) rfl (p_ix (Sl.ix Ha rfl rfl he7 _)) rfl rfl rfl ?_
      refine D.load (v := .agg ⟨[.int .i64 e6.lo, .int .i64 e6.hi, .string e6.tx]⟩) (fr1 := ⟨[_,_,_,_,_,_,_,_,_,_,_,_,_,_,_,_,_,_,_, .agg ⟨[.int .i64 e6.lo, .int .i64 e6.hi, .string e6.tx]⟩, _,_,_,_,_,_], []⟩) rfl rfl rfl (fun _ h => by cases h) (fun s1 hg => (p_loadA ⟨hg.trans ((Sl.row' (Ha.own hO3) he7)).get, ((Sl.row' (Ha.own hO3) he7)).lt⟩ rfl rfl rfl rfl ((Ha.own hO3).get _ _ he7))) rfl ?_
      refine D.op (v := .slice ab b.length cb) (fr1 := ⟨[_,_,_,_,_,_,_,_,_,_,_,_,_,_,_,_,_,_,_,_, .slice ab b.length cb, _,_,_,_,_], []⟩) rfl rfl rfl rfl rfl ?_
      refine D.op (v := .int .i64 ((i : Nat) : Int)) (fr1 := ⟨[_,_,_,_,_,_,_,_,_,_,_,_,_,_,_,_,_,_,_,_,_, .int .i64 ((i : Nat) : Int), _,_,_,_], []⟩) rfl rfl rfl rfl rfl ?_
      obtain ⟨e8, he9⟩ := ex_at (l := b) (i := i) (by omega)
      refine D.op (v := .pointer (some ⟨Nb, ob + i * 3, none⟩)) (fr1 := ⟨[_,_,_,_,_,_,_,_,_,_,_,_,_,_,_,_,_,_,_,_,_,_, .pointer (some ⟨Nb, ob + i * 3, none⟩), _,_,_], []⟩) rfl (p_ix (Sl.ix Hb rfl rfl he9 _)) rfl rfl rfl ?_
      refine D.load (v := .agg ⟨[.int .i64 e8.lo, .int .i64 e8.hi, .string e8.tx]⟩) (fr1 := ⟨[_,_,_,_,_,_,_,_,_,_,_,_,_,_,_,_,_,_,_,_,_,_,_, .agg ⟨[.int .i64 e8.lo, .int .i64 e8.hi, .string e8.tx]⟩, _,_], []⟩) rfl rfl rfl (fun _ h => by cases h) (fun s1 hg => (p_loadA ⟨hg.trans ((Sl.row' (Hb.own hO3) he9)).get, ((Sl.row' (Hb.own hO3) he9)).lt⟩ rfl rfl rfl rfl ((Hb.own hO3).get _ _ he9))) rfl ?_
      by_cases h10 : e6.lo = e8.lo ∧ e6.hi = e8.hi ∧ B e6.tx = B e8.tx
      · skip
        refine D.op (v := .bool false) (fr1 := ⟨[_,_,_,_,_,_,_,_,_,_,_,_,_,_,_,_,_,_,_,_,_,_,_,_, .bool false, _], []⟩) rfl (p_bin (ed97neqT h10)) rfl rfl rfl ?_
        refine D.nil ?_
        refine Ends.condF rfl ?_
        refine Ends.skip ?_
        refine Ends.region ?_
        refine W.op (v := .int .i64 ((i + 1 : Nat) : Int)) (fr1 := ⟨[_,_,_,_,_,_,_,_,_,_,_,_,_,_,_,_,_,_,_,_,_,_,_,_,_, .int .i64 ((i + 1 : Nat) : Int)], []⟩) rfl (p_bin (addI (by omega) (by omega) (by omega))) rfl rfl ?_
        refine W.op (v := .int .i64 ((i + 1 : Nat) : Int)) (fr1 := ⟨[_,_,_,_,_,_,_,_,_,_,_,_,_, .int .i64 ((i + 1 : Nat) : Int), _,_,_,_,_,_,_,_,_,_,_,_], []⟩) rfl rfl rfl rfl ?_
        refine EndsOps.nil ?_
        exact ⟨_, (by omega), i + 1, _, _, _, _, _, _, _, _, _, _, _, _, _, _, rfl, hO3, rfl, by omega, same_step hE he7 he9 h10⟩
      · skip
        refine D.op (v := .bool true) (fr1 := ⟨[_,_,_,_,_,_,_,_,_,_,_,_,_,_,_,_,_,_,_,_,_,_,_,_, .bool true, _], []⟩) rfl (p_bin (ed97neqF h10)) rfl rfl rfl ?_
        refine D.nil ?_
        refine Ends.condT rfl ?_
        refine Ends.seq ?_
        refine Ends.region ?_
        refine W.op (v := .bool false) (fr1 := ⟨[_,_,_,_, .bool false, _,_,_,_,_,_,_,_,_,_,_,_,_,_,_,_,_,_,_,_,_], []⟩) rfl rfl rfl rfl ?_
        refine EndsOps.nil ?_
        refine Ends.ret ?_
        exact ⟨rfl, rfl, hO3, by
          show Value.bool false = .bool (decide (a = b))
          exact congrArg Value.bool (decide_eq_false fun hh => h10 (by subst hh; rw [he7] at he9; cases he9; exact ⟨rfl, rfl, rfl⟩)).symm⟩
    · skip
      refine W.op (v := .bool false) (fr1 := ⟨[_,_,_,_,_,_,_,_,_,_,_,_,_,_, .bool false, _,_,_,_,_,_,_,_,_,_,_], []⟩) rfl (p_bin (ltF h5)) rfl rfl ?_
      refine EndsOps.nil ?_
      refine Ends.seq ?_
      refine Ends.condF rfl ?_
      refine Ends.exit ?_
      refine W.outT rfl ?_
      refine Ends.seq ?_
      refine Ends.region ?_
      refine W.op (v := .bool true) (fr1 := ⟨[_,_,_,_, .bool true, _,_,_,_,_,_,_,_,_,_,_,_,_,_,_,_,_,_,_,_,_], []⟩) rfl rfl rfl rfl ?_
      refine EndsOps.nil ?_
      refine Ends.ret ?_
      exact ⟨rfl, rfl, hO3, by
        show Value.bool true = .bool (decide (a = b))
        exact congrArg Value.bool (decide_eq_true (list_same (by omega) hE (by omega))).symm⟩
  · skip
    refine W.op (v := .bool true) (fr1 := ⟨[_,_,_,_,_,_,_,_,_,_, .bool true, _,_,_,_,_,_,_,_,_,_,_,_,_,_,_], []⟩) rfl (p_bin (neT h1)) rfl rfl ?_
    refine EndsOps.nil ?_
    refine Ends.condT rfl ?_
    refine Ends.seq ?_
    refine Ends.region ?_
    refine W.op (v := .bool false) (fr1 := ⟨[_,_,_,_, .bool false, _,_,_,_,_,_,_,_,_,_,_,_,_,_,_,_,_,_,_,_,_], []⟩) rfl rfl rfl rfl ?_
    refine EndsOps.nil ?_
    refine Ends.ret ?_
    exact ⟨rfl, rfl, hO0, by
      show Value.bool false = .bool (decide (a = b))
      exact congrArg Value.bool (decide_eq_false fun hh => h1 (by rw [hh])).symm⟩
end Go.Ev.R1.Q

/-
  EV: contracts of the first seat's functions.
-/
namespace Go.Ev.R1
open Go Go.Ev Go.Proofs
set_option maxRecDepth 10000
set_option maxHeartbeats 4000000

theorem key_at {a b : List Pv} (h : a.map keyP = b.map keyP) {i : Nat} {x y : Pv} (hx : a[i]? = some x) (hy : b[i]? = some y) : x.file = y.file ∧ x.e = y.e := by
  have := congrArg (fun l : List (ByteArray × Ed) => l[i]?) h
  simp only [List.getElem?_map, hx, hy, Option.map_some, Option.some.injEq, keyP, Prod.mk.injEq] at this
  exact this
theorem slOne {α : Type} {c : α → List Value} {k : Nat} {t : Tree} {n N e hi : Nat} {x : α} (r : Row t n N (c x) e hi) (hk : (c x).length = k) : Sl c k t n (some ⟨N, 0, none⟩) [x] N 0 (c x) e hi := by
  refine ⟨fun _ => rfl, fun _ => r, fun i y hy => ?_, by simp⟩
  have hi : i = 0 := by
    have := (List.getElem?_eq_some_iff.1 hy).1
    simp at this; omega
  subst hi
  simp at hy; subst hy
  unfold Ev.slice
  simp only [Nat.zero_mul, Nat.add_zero, List.drop_zero]
  rw [List.take_of_length_le (by omega), if_pos hk]
theorem slNil {α : Type} {c : α → List Value} {k : Nat} {t : Tree} {n : Nat} : Sl c k t n none ([] : List α) 0 0 [] 0 0 := ⟨fun h => absurd rfl h, fun h => absurd rfl h, fun i y h => by simp at h, by simp⟩

theorem c43 (aa : Option Addr) (a : List Pv) (ca Na oa : Nat) (va : List Value) (ya za : Nat) (ab : Option Addr) (b : List Pv) (cb Nb ob : Nat) (vb : List Value) (yb zb : Nat) (hkey : a.map keyP = b.map keyP) (s : St) (NEa : NE s.t s.next a) (NEb : NE s.t s.next b) (Ha : Sl Pv.cells 2 s.t s.next aa a Na oa va ya za) (Hb : Sl Pv.cells 2 s.t s.next ab b Nb ob vb yb zb)  : EndsPure R1.T 43 [.slice aa a.length ca, .slice ab b.length cb] s (fun v _ _ => v = .bool true) := by
  refine EndsPure.of (rs := [4]) (fr0 := ⟨[.slice aa a.length ca, .slice ab b.length cb, undef, undef, undef, undef, undef, undef, undef, undef, undef, undef, undef, undef, undef, undef, undef, undef, undef, undef, undef, undef, undef, undef, undef, undef, undef, undef, undef, undef, undef, undef, undef, undef, undef, undef, undef, undef, undef, undef, undef, undef], []⟩) (by kernel_rfl : R1.T.fn 43 = some ⟨42, (Try.f43.body).getD .skip, [.tmp 4]⟩) rfl ?_
  have hO0 := Own.refl s
  have Ma := Ha.small
  have Mb := Hb.small
  have hlen : a.length = b.length := by have := congrArg List.length hkey; simpa using this
  simp only [Try.f43, Option.getD]
  refine Ends.seq ?_
  refine Ends.region ?_
  refine W.op (v := .bool false) (fr1 := ⟨[_,_,_,_, .bool false, _,_,_,_,_,_,_,_,_,_,_,_,_,_,_,_,_,_,_,_,_,_,_,_,_,_,_,_,_,_,_,_,_,_,_,_,_], []⟩) rfl rfl rfl rfl ?_
  refine EndsOps.nil ?_
  refine Ends.seq ?_
  refine Ends.seq ?_
  refine Ends.region ?_
  refine W.op (v := .slice aa a.length ca) (fr1 := ⟨[_,_,_,_,_,_, .slice aa a.length ca, _,_,_,_,_,_,_,_,_,_,_,_,_,_,_,_,_,_,_,_,_,_,_,_,_,_,_,_,_,_,_,_,_,_,_], []⟩) rfl rfl rfl rfl ?_
  refine W.op (v := .int .i64 ((a.length : Nat) : Int)) (fr1 := ⟨[_,_,_,_,_,_,_, .int .i64 ((a.length : Nat) : Int), _,_,_,_,_,_,_,_,_,_,_,_,_,_,_,_,_,_,_,_,_,_,_,_,_,_,_,_,_,_,_,_,_,_], []⟩) rfl rfl rfl rfl ?_
  refine W.op (v := .slice ab b.length cb) (fr1 := ⟨[_,_,_,_,_,_,_,_, .slice ab b.length cb, _,_,_,_,_,_,_,_,_,_,_,_,_,_,_,_,_,_,_,_,_,_,_,_,_,_,_,_,_,_,_,_,_], []⟩) rfl rfl rfl rfl ?_
  refine W.op (v := .int .i64 ((b.length : Nat) : Int)) (fr1 := ⟨[_,_,_,_,_,_,_,_,_, .int .i64 ((b.length : Nat) : Int), _,_,_,_,_,_,_,_,_,_,_,_,_,_,_,_,_,_,_,_,_,_,_,_,_,_,_,_,_,_,_,_], []⟩) rfl rfl rfl rfl ?_
  refine W.op (v := .bool false) (fr1 := ⟨[_,_,_,_,_,_,_,_,_,_, .bool false, _,_,_,_,_,_,_,_,_,_,_,_,_,_,_,_,_,_,_,_,_,_,_,_,_,_,_,_,_,_,_], []⟩) rfl (p_bin (neF (by rw [hlen]))) rfl rfl ?_
  refine EndsOps.nil ?_
  refine Ends.condF rfl ?_
  refine Ends.skip ?_
  refine Ends.seq ?_
  refine Ends.seq ?_
  refine Ends.region ?_
  refine W.op (v := .slice aa a.length ca) (fr1 := ⟨[_,_,_,_,_,_,_,_,_,_,_, .slice aa a.length ca, _,_,_,_,_,_,_,_,_,_,_,_,_,_,_,_,_,_,_,_,_,_,_,_,_,_,_,_,_,_], []⟩) rfl rfl rfl rfl ?_
  refine W.op (v := .int .i64 ((a.length : Nat) : Int)) (fr1 := ⟨[_,_,_,_,_,_,_,_,_,_,_,_, .int .i64 ((a.length : Nat) : Int), _,_,_,_,_,_,_,_,_,_,_,_,_,_,_,_,_,_,_,_,_,_,_,_,_,_,_,_,_], []⟩) rfl rfl rfl rfl ?_
  refine W.op (v := .int .i64 0) (fr1 := ⟨[_,_,_,_,_,_,_,_,_,_,_,_,_, .int .i64 0, _,_,_,_,_,_,_,_,_,_,_,_,_,_,_,_,_,_,_,_,_,_,_,_,_,_,_,_], []⟩) rfl rfl rfl rfl ?_
  refine EndsOps.nil ?_
  refine W.block ?_
  refine Ends.loopJ (fun d jf1 fr s1 => ∃ (i : Nat), fr = ⟨[.slice aa a.length ca, .slice ab b.length cb, undef, undef, (jf1 4), (jf1 5), .slice aa a.length ca, .int .i64 ((a.length : Nat) : Int), .slice ab b.length cb, .int .i64 ((b.length : Nat) : Int), .bool false, .slice aa a.length ca, .int .i64 ((a.length : Nat) : Int), .int .i64 ((i : Nat) : Int), (jf1 14), (jf1 15), (jf1 16), (jf1 17), (jf1 18), (jf1 19), (jf1 20), (jf1 21), (jf1 22), (jf1 23), (jf1 24), (jf1 25), (jf1 26), (jf1 27), (jf1 28), (jf1 29), (jf1 30), (jf1 31), (jf1 32), (jf1 33), (jf1 34), (jf1 35), (jf1 36), (jf1 37), (jf1 38), (jf1 39), (jf1 40), (jf1 41)], []⟩ ∧ Own s s1 ∧ d = a.length - i ∧ (i ≤ a.length)) ?_ _ _ _ ⟨0, (by kernel_rfl), hO0, rfl, Nat.zero_le _⟩
  rintro d jf1 _ s2 ⟨i, rfl, hO3, hd4, hi⟩
  refine Ends.seq ?_
  refine Ends.region ?_
  by_cases h5 : ((i : Nat) : Int) < ((a.length : Nat) : Int)
  · skip
    refine W.op (v := .bool true) (fr1 := ⟨[_,_,_,_,_,_,_,_,_,_,_,_,_,_, .bool true, _,_,_,_,_,_,_,_,_,_,_,_,_,_,_,_,_,_,_,_,_,_,_,_,_,_,_], []⟩) rfl (p_bin (ltT h5)) rfl rfl ?_
    refine EndsOps.nil ?_
    refine Ends.seq ?_
    refine Ends.condT rfl ?_
    refine Ends.skip ?_
    refine Ends.seq ?_
    refine W.block ?_
    refine Ends.seq ?_
    refine Ends.region ?_
    refine W.op (v := .int .i64 ((i : Nat) : Int)) (fr1 := ⟨[_,_,_,_,_,_,_,_,_,_,_,_,_,_,_, .int .i64 ((i : Nat) : Int), _,_,_,_,_,_,_,_,_,_,_,_,_,_,_,_,_,_,_,_,_,_,_,_,_,_], []⟩) rfl rfl rfl rfl ?_
    refine W.op (v := .int .i64 ((i : Nat) : Int)) (fr1 := ⟨[_,_,_,_,_, .int .i64 ((i : Nat) : Int), _,_,_,_,_,_,_,_,_,_,_,_,_,_,_,_,_,_,_,_,_,_,_,_,_,_,_,_,_,_,_,_,_,_,_,_], []⟩) rfl rfl rfl rfl ?_
    refine EndsOps.nil ?_
    refine Ends.seq ?_
    refine Ends.drawW (bef := [0, 0, 3, 7, 15, 0, 0, 96, 224, 480, 1023, 2047, 4095, 4095, 16383, 32767, 65535, 4095, 4095, 397311, 921599, 1970175, 4194303, 8388607, 16777215]) (by kernel_rfl) ?_
    refine D.op (v := .slice aa a.length ca) (fr1 := ⟨[_,_,_,_,_,_,_,_,_,_,_,_,_,_,_,_, .slice aa a.length ca, _,_,_,_,_,_,_,_,_,_,_,_,_,_,_,_,_,_,_,_,_,_,_,_,_], []⟩) rfl rfl rfl rfl rfl ?_
    refine D.op (v := .int .i64 ((i : Nat) : Int)) (fr1 := ⟨[_,_,_,_,_,_,_,_,_,_,_,_,_,_,_,_,_, .int .i64 ((i : Nat) : Int), _,_,_,_,_,_,_,_,_,_,_,_,_,_,_,_,_,_,_,_,_,_,_,_], []⟩) rfl rfl rfl rfl rfl ?_
    obtain ⟨e6, he7⟩ := ex_at (l := a) (i := i) (by omega)
    refine D.op (v := .pointer (some ⟨Na, oa + i * 2, none⟩)) (fr1 := ⟨[_,_,_,_,_,_,_,_,_,_,_,_,_,_,_,_,_,_, .pointer (some ⟨Na, oa + i * 2, none⟩), _,_,_,_,_,_,_,_,_,_,_,_,_,_,_,_,_,_,_,_,_,_,_], []⟩) rfl (p_ix (Sl.ix Ha rfl rfl he7 _)) rfl rfl rfl ?_
    refine D.op (v := .pointer (some ⟨Na, oa + i * 2 + 0, none⟩)) (fr1 := ⟨[_,_,_,_,_,_,_,_,_,_,_,_,_,_,_,_,_,_,_, .pointer (some ⟨Na, oa + i * 2 + 0, none⟩), _,_,_,_,_,_,_,_,_,_,_,_,_,_,_,_,_,_,_,_,_,_], []⟩) rfl rfl rfl rfl rfl ?_
    refine D.load (v := .string e6.file) (fr1 := ⟨[_,_,_,_,_,_,_,_,_,_,_,_,_,_,_,_,_,_,_,_, .string e6.file, _,_,_,_,_,_,_,_,_,_,_,_,_,_,_,_,_,_,_,_,_], []⟩) rfl rfl rfl (fun _ h => by cases h) (fun s1 hg => (p_load1 ⟨hg.trans ((Sl.row' (Ha.own hO3) he7)).get, ((Sl.row' (Ha.own hO3) he7)).lt⟩ rfl rfl rfl ((Ha.own hO3).at (j := 0) he7 rfl))) rfl ?_
    refine D.op (v := .slice ab b.length cb) (fr1 := ⟨[_,_,_,_,_,_,_,_,_,_,_,_,_,_,_,_,_,_,_,_,_, .slice ab b.length cb, _,_,_,_,_,_,_,_,_,_,_,_,_,_,_,_,_,_,_,_], []⟩) rfl rfl rfl rfl rfl ?_
    refine D.op (v := .int .i64 ((i : Nat) : Int)) (fr1 := ⟨[_,_,_,_,_,_,_,_,_,_,_,_,_,_,_,_,_,_,_,_,_,_, .int .i64 ((i : Nat) : Int), _,_,_,_,_,_,_,_,_,_,_,_,_,_,_,_,_,_,_], []⟩) rfl rfl rfl rfl rfl ?_
    obtain ⟨e8, he9⟩ := ex_at (l := b) (i := i) (by omega)
    refine D.op (v := .pointer (some ⟨Nb, ob + i * 2, none⟩)) (fr1 := ⟨[_,_,_,_,_,_,_,_,_,_,_,_,_,_,_,_,_,_,_,_,_,_,_, .pointer (some ⟨Nb, ob + i * 2, none⟩), _,_,_,_,_,_,_,_,_,_,_,_,_,_,_,_,_,_], []⟩) rfl (p_ix (Sl.ix Hb rfl rfl he9 _)) rfl rfl rfl ?_
    refine D.op (v := .pointer (some ⟨Nb, ob + i * 2 + 0, none⟩)) (fr1 := ⟨[_,_,_,_,_,_,_,_,_,_,_,_,_,_,_,_,_,_,_,_,_,_,_,_, .pointer (some ⟨Nb, ob + i * 2 + 0, none⟩), _,_,_,_,_,_,_,_,_,_,_,_,_,_,_,_,_], []⟩) rfl rfl rfl rfl rfl ?_
    refine D.load (v := .string e8.file) (fr1 := ⟨[_,_,_,_,_,_,_,_,_,_,_,_,_,_,_,_,_,_,_,_,_,_,_,_,_, .string e8.file, _,_,_,_,_,_,_,_,_,_,_,_,_,_,_,_], []⟩) rfl rfl rfl (fun _ h => by cases h) (fun s1 hg => (p_load1 ⟨hg.trans ((Sl.row' (Hb.own hO3) he9)).get, ((Sl.row' (Hb.own hO3) he9)).lt⟩ rfl rfl rfl ((Hb.own hO3).at (j := 0) he9 rfl))) rfl ?_
    have hk := key_at hkey he7 he9
    refine D.op (v := .bool false) (fr1 := ⟨[_,_,_,_,_,_,_,_,_,_,_,_,_,_,_,_,_,_,_,_,_,_,_,_,_,_, .bool false, _,_,_,_,_,_,_,_,_,_,_,_,_,_,_], []⟩) rfl (p_bin (sneF (by rw [hk.1]))) rfl rfl rfl ?_
    refine D.op (v := .bool false) (fr1 := ⟨[_,_,_,_,_,_,_,_,_,_,_,_,_,_,_,_,_,_,_,_,_,_,_,_,_,_,_, .bool false, _,_,_,_,_,_,_,_,_,_,_,_,_,_], []⟩) rfl rfl rfl rfl rfl ?_
    refine D.op (v := .slice aa a.length ca) (fr1 := ⟨[_,_,_,_,_,_,_,_,_,_,_,_,_,_,_,_,_,_,_,_,_,_,_,_,_,_,_,_, .slice aa a.length ca, _,_,_,_,_,_,_,_,_,_,_,_,_], []⟩) rfl rfl rfl rfl rfl ?_
    refine D.op (v := .int .i64 ((i : Nat) : Int)) (fr1 := ⟨[_,_,_,_,_,_,_,_,_,_,_,_,_,_,_,_,_,_,_,_,_,_,_,_,_,_,_,_,_, .int .i64 ((i : Nat) : Int), _,_,_,_,_,_,_,_,_,_,_,_], []⟩) rfl rfl rfl rfl rfl ?_
    refine D.op (v := .pointer (some ⟨Na, oa + i * 2, none⟩)) (fr1 := ⟨[_,_,_,_,_,_,_,_,_,_,_,_,_,_,_,_,_,_,_,_,_,_,_,_,_,_,_,_,_,_, .pointer (some ⟨Na, oa + i * 2, none⟩), _,_,_,_,_,_,_,_,_,_,_], []⟩) rfl (p_ix (Sl.ix Ha rfl rfl he7 _)) rfl rfl rfl ?_
    refine D.op (v := .pointer (some ⟨Na, oa + i * 2 + 1, none⟩)) (fr1 := ⟨[_,_,_,_,_,_,_,_,_,_,_,_,_,_,_,_,_,_,_,_,_,_,_,_,_,_,_,_,_,_,_, .pointer (some ⟨Na, oa + i * 2 + 1, none⟩), _,_,_,_,_,_,_,_,_,_], []⟩) rfl rfl rfl rfl rfl ?_
    refine D.load (v := .slice (some ⟨e6.blk, 0, none⟩) 1 1) (fr1 := ⟨[_,_,_,_,_,_,_,_,_,_,_,_,_,_,_,_,_,_,_,_,_,_,_,_,_,_,_,_,_,_,_,_, .slice (some ⟨e6.blk, 0, none⟩) 1 1, _,_,_,_,_,_,_,_,_], []⟩) rfl rfl rfl (fun _ h => by cases h) (fun s1 hg => (p_load1 ⟨hg.trans ((Sl.row' (Ha.own hO3) he7)).get, ((Sl.row' (Ha.own hO3) he7)).lt⟩ rfl rfl rfl ((Ha.own hO3).at (j := 1) he7 rfl))) rfl ?_
    refine D.op (v := .slice ab b.length cb) (fr1 := ⟨[_,_,_,_,_,_,_,_,_,_,_,_,_,_,_,_,_,_,_,_,_,_,_,_,_,_,_,_,_,_,_,_,_, .slice ab b.length cb, _,_,_,_,_,_,_,_], []⟩) rfl rfl rfl rfl rfl ?_
    refine D.op (v := .int .i64 ((i : Nat) : Int)) (fr1 := ⟨[_,_,_,_,_,_,_,_,_,_,_,_,_,_,_,_,_,_,_,_,_,_,_,_,_,_,_,_,_,_,_,_,_,_, .int .i64 ((i : Nat) : Int), _,_,_,_,_,_,_], []⟩) rfl rfl rfl rfl rfl ?_
    refine D.op (v := .pointer (some ⟨Nb, ob + i * 2, none⟩)) (fr1 := ⟨[_,_,_,_,_,_,_,_,_,_,_,_,_,_,_,_,_,_,_,_,_,_,_,_,_,_,_,_,_,_,_,_,_,_,_, .pointer (some ⟨Nb, ob + i * 2, none⟩), _,_,_,_,_,_], []⟩) rfl (p_ix (Sl.ix Hb rfl rfl he9 _)) rfl rfl rfl ?_
    refine D.op (v := .pointer (some ⟨Nb, ob + i * 2 + 1, none⟩)) (fr1 := ⟨[_,_,_,_,_,_,_,_,_,_,_,_,_,_,_,_,_,_,_,_,_,_,_,_,_,_,_,_,_,_,_,_,_,_,_,_, .pointer (some ⟨Nb, ob + i * 2 + 1, none⟩), _,_,_,_,_], []⟩) rfl rfl rfl rfl rfl ?_
    refine D.load (v := .slice (some ⟨e8.blk, 0, none⟩) 1 1) (fr1 := ⟨[_,_,_,_,_,_,_,_,_,_,_,_,_,_,_,_,_,_,_,_,_,_,_,_,_,_,_,_,_,_,_,_,_,_,_,_,_, .slice (some ⟨e8.blk, 0, none⟩) 1 1, _,_,_,_], []⟩) rfl rfl rfl (fun _ h => by cases h) (fun s1 hg => (p_load1 ⟨hg.trans ((Sl.row' (Hb.own hO3) he9)).get, ((Sl.row' (Hb.own hO3) he9)).lt⟩ rfl rfl rfl ((Hb.own hO3).at (j := 1) he9 rfl))) rfl ?_
    have g1 := slOne (NE.own NEa hO3 _ (List.mem_of_getElem? he7)) rfl
    have g2 := slOne (NE.own NEb hO3 _ (List.mem_of_getElem? he9)) rfl
    refine D.call (ar := [.slice (some ⟨e6.blk, 0, none⟩) 1 1, .slice (some ⟨e8.blk, 0, none⟩) 1 1]) (X := .bool true) (fr1 := ⟨[_,_,_,_,_,_,_,_,_,_,_,_,_,_,_,_,_,_,_,_,_,_,_,_,_,_,_,_,_,_,_,_,_,_,_,_,_,_, .bool true, _,_,_], []⟩) hO3 rfl rfl rfl rfl rfl ((Q.c33 _ [e6.e] 1 _ _ _ _ _ _ [e8.e] 1 _ _ _ _ _ ⟨s2.t, s2.next, []⟩ g1 g2).mono fun v _ _ h => h.trans (congrArg Value.bool (decide_eq_true (by rw [hk.2])))) rfl ?_
    intro s10 hO11 hS12
    refine D.op (v := .bool false) (fr1 := ⟨[_,_,_,_,_,_,_,_,_,_,_,_,_,_,_,_,_,_,_,_,_,_,_,_,_,_,_,_,_,_,_,_,_,_,_,_,_,_,_, .bool false, _,_], []⟩) rfl rfl rfl rfl rfl ?_
    refine D.op (v := .bool false) (fr1 := ⟨[_,_,_,_,_,_,_,_,_,_,_,_,_,_,_,_,_,_,_,_,_,_,_,_,_,_,_,_,_,_,_,_,_,_,_,_,_,_,_,_, .bool false, _], []⟩) rfl rfl rfl rfl rfl ?_
    refine D.nil ?_
    refine Ends.condF rfl ?_
    refine Ends.skip ?_
    refine Ends.region ?_
    refine W.op (v := .int .i64 ((i + 1 : Nat) : Int)) (fr1 := ⟨[_,_,_,_,_,_,_,_,_,_,_,_,_,_,_,_,_,_,_,_,_,_,_,_,_,_,_,_,_,_,_,_,_,_,_,_,_,_,_,_,_, .int .i64 ((i + 1 : Nat) : Int)], []⟩) rfl (p_bin (addI (by omega) (by omega) (by omega))) rfl rfl ?_
    refine W.op (v := .int .i64 ((i + 1 : Nat) : Int)) (fr1 := ⟨[_,_,_,_,_,_,_,_,_,_,_,_,_, .int .i64 ((i + 1 : Nat) : Int), _,_,_,_,_,_,_,_,_,_,_,_,_,_,_,_,_,_,_,_,_,_,_,_,_,_,_,_], []⟩) rfl rfl rfl rfl ?_
    refine EndsOps.nil ?_
    exact ⟨_, (by omega), i + 1, (by kernel_rfl), hO11, rfl, by omega⟩
  · skip
    refine W.op (v := .bool false) (fr1 := ⟨[_,_,_,_,_,_,_,_,_,_,_,_,_,_, .bool false, _,_,_,_,_,_,_,_,_,_,_,_,_,_,_,_,_,_,_,_,_,_,_,_,_,_,_], []⟩) rfl (p_bin (ltF h5)) rfl rfl ?_
    refine EndsOps.nil ?_
    refine Ends.seq ?_
    refine Ends.condF rfl ?_
    refine Ends.exit ?_
    refine W.outT rfl ?_
    refine Ends.seq ?_
    refine Ends.region ?_
    refine W.op (v := .bool true) (fr1 := ⟨[_,_,_,_, .bool true, _,_,_,_,_,_,_,_,_,_,_,_,_,_,_,_,_,_,_,_,_,_,_,_,_,_,_,_,_,_,_,_,_,_,_,_,_], []⟩) rfl rfl rfl rfl ?_
    refine EndsOps.nil ?_
    refine Ends.ret ?_
    exact ⟨rfl, rfl, hO3, by
      show Value.bool true = Value.bool true
      rfl⟩

theorem c7 (aa : Option Addr) (a : List Fl) (ca Na oa : Nat) (va : List Value) (ya za : Nat) (ab : Option Addr) (b : List Fl) (cb Nb ob : Nat) (vb : List Value) (yb zb : Nat) (Ka : ∀ f ∈ a, f.Ok) (Kb : ∀ f ∈ b, f.Ok) (s : St) (Ha : Sl Fl.cells 2 s.t s.next aa a Na oa va ya za) (Hb : Sl Fl.cells 2 s.t s.next ab b Nb ob vb yb zb) (A : EndsPure R1.T 39 [] s fun v _ _ => v = .bool true) : EndsPure R1.T 7 [.slice aa a.length ca, .slice ab b.length cb] s (fun v _ _ => v = .bool true) := by
  refine EndsPure.of (rs := [4]) (fr0 := ⟨[.slice aa a.length ca, .slice ab b.length cb, undef, undef, undef, undef, undef, undef, undef, undef, undef, undef, undef, undef, undef, undef, undef, undef, undef, undef, undef, undef, undef, undef, undef, undef, undef, undef, undef, undef, undef, undef, undef, undef, undef, undef, undef, undef], []⟩) (by kernel_rfl : R1.T.fn 7 = some ⟨38, (Try.f7.body).getD .skip, [.tmp 4]⟩) rfl ?_
  have hO0 := Own.refl s
  have Ma := Ha.small
  have Mb := Hb.small
  simp only [Try.f7, Option.getD]
  refine Ends.seq ?_
  refine Ends.region ?_
  refine W.op (v := .bool false) (fr1 := ⟨[_,_,_,_, .bool false, _,_,_,_,_,_,_,_,_,_,_,_,_,_,_,_,_,_,_,_,_,_,_,_,_,_,_,_,_,_,_,_,_], []⟩) rfl rfl rfl rfl ?_
  refine EndsOps.nil ?_
  refine Ends.seq ?_
  refine Ends.seq ?_
  refine Ends.region ?_
  refine W.call (ar := []) (X := .bool true) (fr1 := ⟨[_,_,_,_,_,_,_,_,_, .bool true, _,_,_,_,_,_,_,_,_,_,_,_,_,_,_,_,_,_,_,_,_,_,_,_,_,_,_,_], []⟩) hO0 rfl rfl rfl rfl A rfl ?_
  intro s1 hO2 hS3
  refine W.op (v := .bool false) (fr1 := ⟨[_,_,_,_,_,_,_,_,_,_, .bool false, _,_,_,_,_,_,_,_,_,_,_,_,_,_,_,_,_,_,_,_,_,_,_,_,_,_,_], []⟩) rfl rfl rfl rfl ?_
  refine EndsOps.nil ?_
  refine Ends.condF rfl ?_
  refine Ends.skip ?_
  refine Ends.seq ?_
  refine Ends.seq ?_
  refine Ends.region ?_
  refine W.op (v := .slice aa a.length ca) (fr1 := ⟨[_,_,_,_,_,_,_,_,_,_,_, .slice aa a.length ca, _,_,_,_,_,_,_,_,_,_,_,_,_,_,_,_,_,_,_,_,_,_,_,_,_,_], []⟩) rfl rfl rfl rfl ?_
  by_cases h4 : LargeF a
  · skip
    refine W.call (ar := [.slice aa a.length ca]) (X := .bool true) (fr1 := ⟨[_,_,_,_,_,_,_,_,_,_,_,_, .bool true, _,_,_,_,_,_,_,_,_,_,_,_,_,_,_,_,_,_,_,_,_,_,_,_,_], []⟩) hO2 rfl rfl rfl rfl ((c40 _ _ _ _ _ _ _ _ Ka _ (Ha.own hO2)).mono fun v _ _ g => g.trans (congrArg Value.bool (decide_eq_true h4))) rfl ?_
    intro s5 hO6 hS7
    refine W.op (v := .bool true) (fr1 := ⟨[_,_,_,_,_,_,_,_,_,_,_,_,_, .bool true, _,_,_,_,_,_,_,_,_,_,_,_,_,_,_,_,_,_,_,_,_,_,_,_], []⟩) rfl rfl rfl rfl ?_
    refine W.skip (fr1 := ⟨[_,_,_,_,_,_,_,_,_,_,_,_,_,_, undef, _,_,_,_,_,_,_,_,_,_,_,_,_,_,_,_,_,_,_,_,_,_,_], []⟩) rfl rfl ?_
    refine W.skip (fr1 := ⟨[_,_,_,_,_,_,_,_,_,_,_,_,_,_,_, undef, _,_,_,_,_,_,_,_,_,_,_,_,_,_,_,_,_,_,_,_,_,_], []⟩) rfl rfl ?_
    refine W.op (v := .bool true) (fr1 := ⟨[_,_,_,_,_,_,_,_,_,_,_,_,_,_,_,_, .bool true, _,_,_,_,_,_,_,_,_,_,_,_,_,_,_,_,_,_,_,_,_], []⟩) rfl rfl rfl rfl ?_
    refine EndsOps.nil ?_
    refine Ends.condT rfl ?_
    refine Ends.seq ?_
    refine Ends.region ?_
    refine W.op (v := .bool true) (fr1 := ⟨[_,_,_,_, .bool true, _,_,_,_,_,_,_,_,_,_,_,_,_,_,_,_,_,_,_,_,_,_,_,_,_,_,_,_,_,_,_,_,_], []⟩) rfl rfl rfl rfl ?_
    refine EndsOps.nil ?_
    refine Ends.ret ?_
    exact ⟨rfl, rfl, hO6, by
      show Value.bool true = Value.bool true
      rfl⟩
  · skip
    have hA : a.length ≤ 1000 := by simp only [LargeF] at h4; omega
    refine W.call (ar := [.slice aa a.length ca]) (X := .bool false) (fr1 := ⟨[_,_,_,_,_,_,_,_,_,_,_,_, .bool false, _,_,_,_,_,_,_,_,_,_,_,_,_,_,_,_,_,_,_,_,_,_,_,_,_], []⟩) hO2 rfl rfl rfl rfl ((c40 _ _ _ _ _ _ _ _ Ka _ (Ha.own hO2)).mono fun v _ _ g => g.trans (congrArg Value.bool (decide_eq_false h4))) rfl ?_
    intro s8 hO9 hS10
    refine W.op (v := .bool false) (fr1 := ⟨[_,_,_,_,_,_,_,_,_,_,_,_,_, .bool false, _,_,_,_,_,_,_,_,_,_,_,_,_,_,_,_,_,_,_,_,_,_,_,_], []⟩) rfl rfl rfl rfl ?_
    refine W.op (v := .slice ab b.length cb) (fr1 := ⟨[_,_,_,_,_,_,_,_,_,_,_,_,_,_, .slice ab b.length cb, _,_,_,_,_,_,_,_,_,_,_,_,_,_,_,_,_,_,_,_,_,_,_], []⟩) rfl rfl rfl rfl ?_
    by_cases h11 : LargeF b
    · skip
      refine W.call (ar := [.slice ab b.length cb]) (X := .bool true) (fr1 := ⟨[_,_,_,_,_,_,_,_,_,_,_,_,_,_,_, .bool true, _,_,_,_,_,_,_,_,_,_,_,_,_,_,_,_,_,_,_,_,_,_], []⟩) hO9 rfl rfl rfl rfl ((c40 _ _ _ _ _ _ _ _ Kb _ (Hb.own hO9)).mono fun v _ _ g => g.trans (congrArg Value.bool (decide_eq_true h11))) rfl ?_
      intro s12 hO13 hS14
      refine W.op (v := .bool true) (fr1 := ⟨[_,_,_,_,_,_,_,_,_,_,_,_,_,_,_,_, .bool true, _,_,_,_,_,_,_,_,_,_,_,_,_,_,_,_,_,_,_,_,_], []⟩) rfl rfl rfl rfl ?_
      refine EndsOps.nil ?_
      refine Ends.condT rfl ?_
      refine Ends.seq ?_
      refine Ends.region ?_
      refine W.op (v := .bool true) (fr1 := ⟨[_,_,_,_, .bool true, _,_,_,_,_,_,_,_,_,_,_,_,_,_,_,_,_,_,_,_,_,_,_,_,_,_,_,_,_,_,_,_,_], []⟩) rfl rfl rfl rfl ?_
      refine EndsOps.nil ?_
      refine Ends.ret ?_
      exact ⟨rfl, rfl, hO13, by
        show Value.bool true = Value.bool true
        rfl⟩
    · skip
      have hB : b.length ≤ 1000 := by simp only [LargeF] at h11; omega
      refine W.call (ar := [.slice ab b.length cb]) (X := .bool false) (fr1 := ⟨[_,_,_,_,_,_,_,_,_,_,_,_,_,_,_, .bool false, _,_,_,_,_,_,_,_,_,_,_,_,_,_,_,_,_,_,_,_,_,_], []⟩) hO9 rfl rfl rfl rfl ((c40 _ _ _ _ _ _ _ _ Kb _ (Hb.own hO9)).mono fun v _ _ g => g.trans (congrArg Value.bool (decide_eq_false h11))) rfl ?_
      intro s15 hO16 hS17
      refine W.op (v := .bool false) (fr1 := ⟨[_,_,_,_,_,_,_,_,_,_,_,_,_,_,_,_, .bool false, _,_,_,_,_,_,_,_,_,_,_,_,_,_,_,_,_,_,_,_,_], []⟩) rfl rfl rfl rfl ?_
      refine EndsOps.nil ?_
      refine Ends.condF rfl ?_
      refine Ends.skip ?_
      refine Ends.seq ?_
      refine Ends.region ?_
      refine W.op (v := .slice aa a.length ca) (fr1 := ⟨[_,_,_,_,_,_,_,_,_,_,_,_,_,_,_,_,_,_, .slice aa a.length ca, _,_,_,_,_,_,_,_,_,_,_,_,_,_,_,_,_,_,_], []⟩) rfl rfl rfl rfl ?_
      refine W.op (v := .slice ab b.length cb) (fr1 := ⟨[_,_,_,_,_,_,_,_,_,_,_,_,_,_,_,_,_,_,_, .slice ab b.length cb, _,_,_,_,_,_,_,_,_,_,_,_,_,_,_,_,_,_], []⟩) rfl rfl rfl rfl ?_
      by_cases h18 : FR a
      · skip
        by_cases h19 : FR b
        · skip
          by_cases h20 : Named a b
          · skip
            refine W.callE (ar := [.slice aa a.length ca, .slice ab b.length cb]) (fF := fun v21 => ⟨[_,_,_,_,_,_,_,_,_,_,_,_,_,_,_,_,_,_,_,_, v21, _,_,_,_,_,_,_,_,_,_,_,_,_,_,_,_,_], []⟩) hO16 rfl rfl rfl rfl (c41 _ a _ _ _ _ _ _ _ b _ _ _ _ _ _ hA Ka Kb _ (Ha.own hO16) (Hb.own hO16)) (fun _ => rfl) ?_
            intro v21 s22 hR25 hO23 hS24
            obtain ⟨p1w, p1o, rfl, hol26, ne27, key1⟩ := hR25.1 ⟨h18, h19, h20⟩
            refine W.op (v := .tuple ⟨[p1w, .nilIface]⟩) (fr1 := ⟨[_,_,_,_,_,_,_,_,_,_,_,_,_,_,_,_,_, .tuple ⟨[p1w, .nilIface]⟩, _,_,_,_,_,_,_,_,_,_,_,_,_,_,_,_,_,_,_,_], []⟩) rfl rfl rfl rfl ?_
            refine W.op (v := p1w) (fr1 := ⟨[_,_,_,_,_,_,_,_,_,_,_,_,_,_,_,_,_,_,_,_,_, p1w, _,_,_,_,_,_,_,_,_,_,_,_,_,_,_,_], []⟩) rfl rfl rfl rfl ?_
            refine W.op (v := .nilIface) (fr1 := ⟨[_,_,_,_,_,_,_,_,_,_,_,_,_,_,_,_,_,_,_,_,_,_, .nilIface, _,_,_,_,_,_,_,_,_,_,_,_,_,_,_], []⟩) rfl rfl rfl rfl ?_
            refine W.op (v := p1w) (fr1 := ⟨[_,_,_,_,_, p1w, _,_,_,_,_,_,_,_,_,_,_,_,_,_,_,_,_,_,_,_,_,_,_,_,_,_,_,_,_,_,_,_], []⟩) rfl rfl rfl rfl ?_
            refine W.op (v := .nilIface) (fr1 := ⟨[_,_,_,_,_,_, .nilIface, _,_,_,_,_,_,_,_,_,_,_,_,_,_,_,_,_,_,_,_,_,_,_,_,_,_,_,_,_,_,_], []⟩) rfl rfl rfl rfl ?_
            refine EndsOps.nil ?_
            refine Ends.seq ?_
            refine Ends.region ?_
            refine W.op (v := .slice aa a.length ca) (fr1 := ⟨[_,_,_,_,_,_,_,_,_,_,_,_,_,_,_,_,_,_,_,_,_,_,_,_, .slice aa a.length ca, _,_,_,_,_,_,_,_,_,_,_,_,_], []⟩) rfl rfl rfl rfl ?_
            refine W.op (v := .slice ab b.length cb) (fr1 := ⟨[_,_,_,_,_,_,_,_,_,_,_,_,_,_,_,_,_,_,_,_,_,_,_,_,_, .slice ab b.length cb, _,_,_,_,_,_,_,_,_,_,_,_], []⟩) rfl rfl rfl rfl ?_
            refine W.callE (ar := [.slice aa a.length ca, .slice ab b.length cb]) (fF := fun v28 => ⟨[_,_,_,_,_,_,_,_,_,_,_,_,_,_,_,_,_,_,_,_,_,_,_,_,_,_, v28, _,_,_,_,_,_,_,_,_,_,_], []⟩) hO23 rfl rfl rfl rfl (c42 _ a _ _ _ _ _ _ _ b _ _ _ _ _ _ hA Ka Kb _ (Ha.own hO23) (Hb.own hO23)) (fun _ => rfl) ?_
            intro v28 s29 hR32 hO30 hS31
            have ne33 := NE.own ne27 hS31
            have hE34 := (Own.refl s22).trans hS31
            obtain ⟨p2w, p2o, rfl, hol35, ne36, key2⟩ := hR32.1 ⟨h18, h19, h20⟩
            have ne37 : NE _ _ (p1o ++ p2o) := fun p hp => (List.mem_append.1 hp).elim (ne33 p) (ne36 p)
            refine W.op (v := .tuple ⟨[p2w, .int .i64 0]⟩) (fr1 := ⟨[_,_,_,_,_,_,_,_,_,_,_,_,_,_,_,_,_,_,_,_,_,_,_, .tuple ⟨[p2w, .int .i64 0]⟩, _,_,_,_,_,_,_,_,_,_,_,_,_,_], []⟩) rfl rfl rfl rfl ?_
            refine W.op (v := p2w) (fr1 := ⟨[_,_,_,_,_,_,_,_,_,_,_,_,_,_,_,_,_,_,_,_,_,_,_,_,_,_,_, p2w, _,_,_,_,_,_,_,_,_,_], []⟩) rfl rfl rfl rfl ?_
            refine W.op (v := .int .i64 0) (fr1 := ⟨[_,_,_,_,_,_,_,_,_,_,_,_,_,_,_,_,_,_,_,_,_,_,_,_,_,_,_,_, .int .i64 0, _,_,_,_,_,_,_,_,_], []⟩) rfl rfl rfl rfl ?_
            refine W.op (v := p2w) (fr1 := ⟨[_,_,_,_,_,_,_, p2w, _,_,_,_,_,_,_,_,_,_,_,_,_,_,_,_,_,_,_,_,_,_,_,_,_,_,_,_,_,_], []⟩) rfl rfl rfl rfl ?_
            refine W.op (v := .int .i64 0) (fr1 := ⟨[_,_,_,_,_,_,_,_, .int .i64 0, _,_,_,_,_,_,_,_,_,_,_,_,_,_,_,_,_,_,_,_,_,_,_,_,_,_,_,_,_], []⟩) rfl rfl rfl rfl ?_
            refine EndsOps.nil ?_
            refine Ends.seq ?_
            refine Ends.region ?_
            refine W.op (v := .nilIface) (fr1 := ⟨[_,_,_,_,_,_,_,_,_,_,_,_,_,_,_,_,_,_,_,_,_,_,_,_,_,_,_,_,_, .nilIface, _,_,_,_,_,_,_,_], []⟩) rfl rfl rfl rfl ?_
            refine W.call (ar := [.nilIface]) (X := .int .i64 0) (fr1 := ⟨[_,_,_,_,_,_,_,_,_,_,_,_,_,_,_,_,_,_,_,_,_,_,_,_,_,_,_,_,_,_, .int .i64 0, _,_,_,_,_,_,_], []⟩) hO30 rfl rfl rfl rfl (c22n _) rfl ?_
            intro s38 hO39 hS40
            have ne41 := NE.own ne37 hS40
            have hE42 := hE34.trans hS40
            have hE43 := (Own.refl s29).trans hS40
            refine W.op (v := .int .i64 0) (fr1 := ⟨[_,_,_,_,_,_,_,_,_,_,_,_,_,_,_,_,_,_,_,_,_,_,_,_,_,_,_,_,_,_,_, .int .i64 0, _,_,_,_,_,_], []⟩) rfl rfl rfl rfl ?_
            refine W.op (v := .bool true) (fr1 := ⟨[_,_,_,_,_,_,_,_,_,_,_,_,_,_,_,_,_,_,_,_,_,_,_,_,_,_,_,_,_,_,_,_, .bool true, _,_,_,_,_], []⟩) rfl rfl rfl rfl ?_
            refine W.op (v := .bool true) (fr1 := ⟨[_,_,_,_,_,_,_,_,_,_,_,_,_,_,_,_,_,_,_,_,_,_,_,_,_,_,_,_,_,_,_,_,_, .bool true, _,_,_,_], []⟩) rfl rfl rfl rfl ?_
            refine W.op (v := p1w) (fr1 := ⟨[_,_,_,_,_,_,_,_,_,_,_,_,_,_,_,_,_,_,_,_,_,_,_,_,_,_,_,_,_,_,_,_,_,_, p1w, _,_,_], []⟩) rfl rfl rfl rfl ?_
            refine W.op (v := p2w) (fr1 := ⟨[_,_,_,_,_,_,_,_,_,_,_,_,_,_,_,_,_,_,_,_,_,_,_,_,_,_,_,_,_,_,_,_,_,_,_, p2w, _,_], []⟩) rfl rfl rfl rfl ?_
            obtain ⟨a44, cq45, N46, v47, y48, z49, rfl, H50, lo51, C52⟩ := (hol26.own hE42).sl (fun _ => rfl)
            have sm_a44 := H50.small
            obtain ⟨a53, cq54, N55, v56, y57, z58, rfl, H59, lo60, C61⟩ := (hol35.own hE43).sl (fun _ => rfl)
            have sm_a53 := H59.small
            refine W.call (ar := [.slice a44 p1o.length cq45, .slice a53 p2o.length cq54]) (X := .bool true) (fr1 := ⟨[_,_,_,_,_,_,_,_,_,_,_,_,_,_,_,_,_,_,_,_,_,_,_,_,_,_,_,_,_,_,_,_,_,_,_,_, .bool true, _], []⟩) hO39 rfl rfl rfl rfl (c43 _ p1o _ _ _ _ _ _ _ p2o _ _ _ _ _ _ (key1.trans key2.symm) _ (fun p hp => ne41 p (List.mem_append_left _ hp)) (fun p hp => ne41 p (List.mem_append_right _ hp)) (H50.own (Own.refl s38)) (H59.own (Own.refl s38))) rfl ?_
            intro s62 hO63 hS64
            have ne65 := NE.own ne41 hS64
            have hE66 := hE42.trans hS64
            have hE67 := hE43.trans hS64
            have hE68 := (Own.refl s38).trans hS64
            refine W.op (v := .bool true) (fr1 := ⟨[_,_,_,_,_,_,_,_,_,_,_,_,_,_,_,_,_,_,_,_,_,_,_,_,_,_,_,_,_,_,_,_,_,_,_,_,_, .bool true], []⟩) rfl rfl rfl rfl ?_
            refine W.op (v := .bool true) (fr1 := ⟨[_,_,_,_, .bool true, _,_,_,_,_,_,_,_,_,_,_,_,_,_,_,_,_,_,_,_,_,_,_,_,_,_,_,_,_,_,_,_,_], []⟩) rfl rfl rfl rfl ?_
            refine EndsOps.nil ?_
            refine Ends.ret ?_
            exact ⟨rfl, rfl, hO63, by
              show Value.bool true = Value.bool true
              rfl⟩
          · skip
            refine W.call (ar := [.slice aa a.length ca, .slice ab b.length cb]) (X := .tuple ⟨[.slice none 0 0, .iface 37 (.int .i64 5)]⟩) (fr1 := ⟨[_,_,_,_,_,_,_,_,_,_,_,_,_,_,_,_,_,_,_,_, .tuple ⟨[.slice none 0 0, .iface 37 (.int .i64 5)]⟩, _,_,_,_,_,_,_,_,_,_,_,_,_,_,_,_,_], []⟩) hO16 rfl rfl rfl rfl ((c41 _ a _ _ _ _ _ _ _ b _ _ _ _ _ _ hA Ka Kb _ (Ha.own hO16) (Hb.own hO16)).mono fun v _ _ h => h.2.2 ⟨h18, h19, h20⟩) rfl ?_
            intro s69 hO70 hS71
            refine W.op (v := .tuple ⟨[.slice none 0 0, .iface 37 (.int .i64 5)]⟩) (fr1 := ⟨[_,_,_,_,_,_,_,_,_,_,_,_,_,_,_,_,_, .tuple ⟨[.slice none 0 0, .iface 37 (.int .i64 5)]⟩, _,_,_,_,_,_,_,_,_,_,_,_,_,_,_,_,_,_,_,_], []⟩) rfl rfl rfl rfl ?_
            refine W.op (v := .slice none 0 0) (fr1 := ⟨[_,_,_,_,_,_,_,_,_,_,_,_,_,_,_,_,_,_,_,_,_, .slice none 0 0, _,_,_,_,_,_,_,_,_,_,_,_,_,_,_,_], []⟩) rfl rfl rfl rfl ?_
            refine W.op (v := .iface 37 (.int .i64 5)) (fr1 := ⟨[_,_,_,_,_,_,_,_,_,_,_,_,_,_,_,_,_,_,_,_,_,_, .iface 37 (.int .i64 5), _,_,_,_,_,_,_,_,_,_,_,_,_,_,_], []⟩) rfl rfl rfl rfl ?_
            refine W.op (v := .slice none 0 0) (fr1 := ⟨[_,_,_,_,_, .slice none 0 0, _,_,_,_,_,_,_,_,_,_,_,_,_,_,_,_,_,_,_,_,_,_,_,_,_,_,_,_,_,_,_,_], []⟩) rfl rfl rfl rfl ?_
            refine W.op (v := .iface 37 (.int .i64 5)) (fr1 := ⟨[_,_,_,_,_,_, .iface 37 (.int .i64 5), _,_,_,_,_,_,_,_,_,_,_,_,_,_,_,_,_,_,_,_,_,_,_,_,_,_,_,_,_,_,_], []⟩) rfl rfl rfl rfl ?_
            refine EndsOps.nil ?_
            refine Ends.seq ?_
            refine Ends.region ?_
            refine W.op (v := .slice aa a.length ca) (fr1 := ⟨[_,_,_,_,_,_,_,_,_,_,_,_,_,_,_,_,_,_,_,_,_,_,_,_, .slice aa a.length ca, _,_,_,_,_,_,_,_,_,_,_,_,_], []⟩) rfl rfl rfl rfl ?_
            refine W.op (v := .slice ab b.length cb) (fr1 := ⟨[_,_,_,_,_,_,_,_,_,_,_,_,_,_,_,_,_,_,_,_,_,_,_,_,_, .slice ab b.length cb, _,_,_,_,_,_,_,_,_,_,_,_], []⟩) rfl rfl rfl rfl ?_
            refine W.call (ar := [.slice aa a.length ca, .slice ab b.length cb]) (X := .tuple ⟨[.slice none 0 0, .int .i64 5]⟩) (fr1 := ⟨[_,_,_,_,_,_,_,_,_,_,_,_,_,_,_,_,_,_,_,_,_,_,_,_,_,_, .tuple ⟨[.slice none 0 0, .int .i64 5]⟩, _,_,_,_,_,_,_,_,_,_,_], []⟩) hO70 rfl rfl rfl rfl ((c42 _ a _ _ _ _ _ _ _ b _ _ _ _ _ _ hA Ka Kb _ (Ha.own hO70) (Hb.own hO70)).mono fun v _ _ h => h.2.2 ⟨h18, h19, h20⟩) rfl ?_
            intro s72 hO73 hS74
            refine W.op (v := .tuple ⟨[.slice none 0 0, .int .i64 5]⟩) (fr1 := ⟨[_,_,_,_,_,_,_,_,_,_,_,_,_,_,_,_,_,_,_,_,_,_,_, .tuple ⟨[.slice none 0 0, .int .i64 5]⟩, _,_,_,_,_,_,_,_,_,_,_,_,_,_], []⟩) rfl rfl rfl rfl ?_
            refine W.op (v := .slice none 0 0) (fr1 := ⟨[_,_,_,_,_,_,_,_,_,_,_,_,_,_,_,_,_,_,_,_,_,_,_,_,_,_,_, .slice none 0 0, _,_,_,_,_,_,_,_,_,_], []⟩) rfl rfl rfl rfl ?_
            refine W.op (v := .int .i64 5) (fr1 := ⟨[_,_,_,_,_,_,_,_,_,_,_,_,_,_,_,_,_,_,_,_,_,_,_,_,_,_,_,_, .int .i64 5, _,_,_,_,_,_,_,_,_], []⟩) rfl rfl rfl rfl ?_
            refine W.op (v := .slice none 0 0) (fr1 := ⟨[_,_,_,_,_,_,_, .slice none 0 0, _,_,_,_,_,_,_,_,_,_,_,_,_,_,_,_,_,_,_,_,_,_,_,_,_,_,_,_,_,_], []⟩) rfl rfl rfl rfl ?_
            refine W.op (v := .int .i64 5) (fr1 := ⟨[_,_,_,_,_,_,_,_, .int .i64 5, _,_,_,_,_,_,_,_,_,_,_,_,_,_,_,_,_,_,_,_,_,_,_,_,_,_,_,_,_], []⟩) rfl rfl rfl rfl ?_
            refine EndsOps.nil ?_
            refine Ends.seq ?_
            refine Ends.region ?_
            refine W.op (v := .iface 37 (.int .i64 5)) (fr1 := ⟨[_,_,_,_,_,_,_,_,_,_,_,_,_,_,_,_,_,_,_,_,_,_,_,_,_,_,_,_,_, .iface 37 (.int .i64 5), _,_,_,_,_,_,_,_], []⟩) rfl rfl rfl rfl ?_
            refine W.call (ar := [.iface 37 (.int .i64 5)]) (X := .int .i64 5) (fr1 := ⟨[_,_,_,_,_,_,_,_,_,_,_,_,_,_,_,_,_,_,_,_,_,_,_,_,_,_,_,_,_,_, .int .i64 5, _,_,_,_,_,_,_], []⟩) hO73 rfl rfl rfl rfl (c22 _ (by decide) _) rfl ?_
            intro s75 hO76 hS77
            refine W.op (v := .int .i64 5) (fr1 := ⟨[_,_,_,_,_,_,_,_,_,_,_,_,_,_,_,_,_,_,_,_,_,_,_,_,_,_,_,_,_,_,_, .int .i64 5, _,_,_,_,_,_], []⟩) rfl rfl rfl rfl ?_
            refine W.op (v := .bool true) (fr1 := ⟨[_,_,_,_,_,_,_,_,_,_,_,_,_,_,_,_,_,_,_,_,_,_,_,_,_,_,_,_,_,_,_,_, .bool true, _,_,_,_,_], []⟩) rfl rfl rfl rfl ?_
            refine W.op (v := .bool true) (fr1 := ⟨[_,_,_,_,_,_,_,_,_,_,_,_,_,_,_,_,_,_,_,_,_,_,_,_,_,_,_,_,_,_,_,_,_, .bool true, _,_,_,_], []⟩) rfl rfl rfl rfl ?_
            refine W.op (v := .slice none 0 0) (fr1 := ⟨[_,_,_,_,_,_,_,_,_,_,_,_,_,_,_,_,_,_,_,_,_,_,_,_,_,_,_,_,_,_,_,_,_,_, .slice none 0 0, _,_,_], []⟩) rfl rfl rfl rfl ?_
            refine W.op (v := .slice none 0 0) (fr1 := ⟨[_,_,_,_,_,_,_,_,_,_,_,_,_,_,_,_,_,_,_,_,_,_,_,_,_,_,_,_,_,_,_,_,_,_,_, .slice none 0 0, _,_], []⟩) rfl rfl rfl rfl ?_
            refine W.call (ar := [.slice none 0 0, .slice none 0 0]) (X := .bool true) (fr1 := ⟨[_,_,_,_,_,_,_,_,_,_,_,_,_,_,_,_,_,_,_,_,_,_,_,_,_,_,_,_,_,_,_,_,_,_,_,_, .bool true, _], []⟩) hO76 rfl rfl rfl rfl (c43 none [] 0 0 0 [] 0 0 none [] 0 0 0 [] 0 0 rfl _ NE.nil NE.nil slNil slNil) rfl ?_
            intro s78 hO79 hS80
            refine W.op (v := .bool true) (fr1 := ⟨[_,_,_,_,_,_,_,_,_,_,_,_,_,_,_,_,_,_,_,_,_,_,_,_,_,_,_,_,_,_,_,_,_,_,_,_,_, .bool true], []⟩) rfl rfl rfl rfl ?_
            refine W.op (v := .bool true) (fr1 := ⟨[_,_,_,_, .bool true, _,_,_,_,_,_,_,_,_,_,_,_,_,_,_,_,_,_,_,_,_,_,_,_,_,_,_,_,_,_,_,_,_], []⟩) rfl rfl rfl rfl ?_
            refine EndsOps.nil ?_
            refine Ends.ret ?_
            exact ⟨rfl, rfl, hO79, by
              show Value.bool true = Value.bool true
              rfl⟩
        · skip
          refine W.call (ar := [.slice aa a.length ca, .slice ab b.length cb]) (X := .tuple ⟨[.slice none 0 0, .iface 37 (.int .i64 2)]⟩) (fr1 := ⟨[_,_,_,_,_,_,_,_,_,_,_,_,_,_,_,_,_,_,_,_, .tuple ⟨[.slice none 0 0, .iface 37 (.int .i64 2)]⟩, _,_,_,_,_,_,_,_,_,_,_,_,_,_,_,_,_], []⟩) hO16 rfl rfl rfl rfl ((c41 _ a _ _ _ _ _ _ _ b _ _ _ _ _ _ hA Ka Kb _ (Ha.own hO16) (Hb.own hO16)).mono fun v _ _ h => h.2.1 fun hh => h19 hh.2) rfl ?_
          intro s81 hO82 hS83
          refine W.op (v := .tuple ⟨[.slice none 0 0, .iface 37 (.int .i64 2)]⟩) (fr1 := ⟨[_,_,_,_,_,_,_,_,_,_,_,_,_,_,_,_,_, .tuple ⟨[.slice none 0 0, .iface 37 (.int .i64 2)]⟩, _,_,_,_,_,_,_,_,_,_,_,_,_,_,_,_,_,_,_,_], []⟩) rfl rfl rfl rfl ?_
          refine W.op (v := .slice none 0 0) (fr1 := ⟨[_,_,_,_,_,_,_,_,_,_,_,_,_,_,_,_,_,_,_,_,_, .slice none 0 0, _,_,_,_,_,_,_,_,_,_,_,_,_,_,_,_], []⟩) rfl rfl rfl rfl ?_
          refine W.op (v := .iface 37 (.int .i64 2)) (fr1 := ⟨[_,_,_,_,_,_,_,_,_,_,_,_,_,_,_,_,_,_,_,_,_,_, .iface 37 (.int .i64 2), _,_,_,_,_,_,_,_,_,_,_,_,_,_,_], []⟩) rfl rfl rfl rfl ?_
          refine W.op (v := .slice none 0 0) (fr1 := ⟨[_,_,_,_,_, .slice none 0 0, _,_,_,_,_,_,_,_,_,_,_,_,_,_,_,_,_,_,_,_,_,_,_,_,_,_,_,_,_,_,_,_], []⟩) rfl rfl rfl rfl ?_
          refine W.op (v := .iface 37 (.int .i64 2)) (fr1 := ⟨[_,_,_,_,_,_, .iface 37 (.int .i64 2), _,_,_,_,_,_,_,_,_,_,_,_,_,_,_,_,_,_,_,_,_,_,_,_,_,_,_,_,_,_,_], []⟩) rfl rfl rfl rfl ?_
          refine EndsOps.nil ?_
          refine Ends.seq ?_
          refine Ends.region ?_
          refine W.op (v := .slice aa a.length ca) (fr1 := ⟨[_,_,_,_,_,_,_,_,_,_,_,_,_,_,_,_,_,_,_,_,_,_,_,_, .slice aa a.length ca, _,_,_,_,_,_,_,_,_,_,_,_,_], []⟩) rfl rfl rfl rfl ?_
          refine W.op (v := .slice ab b.length cb) (fr1 := ⟨[_,_,_,_,_,_,_,_,_,_,_,_,_,_,_,_,_,_,_,_,_,_,_,_,_, .slice ab b.length cb, _,_,_,_,_,_,_,_,_,_,_,_], []⟩) rfl rfl rfl rfl ?_
          refine W.call (ar := [.slice aa a.length ca, .slice ab b.length cb]) (X := .tuple ⟨[.slice none 0 0, .int .i64 2]⟩) (fr1 := ⟨[_,_,_,_,_,_,_,_,_,_,_,_,_,_,_,_,_,_,_,_,_,_,_,_,_,_, .tuple ⟨[.slice none 0 0, .int .i64 2]⟩, _,_,_,_,_,_,_,_,_,_,_], []⟩) hO82 rfl rfl rfl rfl ((c42 _ a _ _ _ _ _ _ _ b _ _ _ _ _ _ hA Ka Kb _ (Ha.own hO82) (Hb.own hO82)).mono fun v _ _ h => h.2.1 fun hh => h19 hh.2) rfl ?_
          intro s84 hO85 hS86
          refine W.op (v := .tuple ⟨[.slice none 0 0, .int .i64 2]⟩) (fr1 := ⟨[_,_,_,_,_,_,_,_,_,_,_,_,_,_,_,_,_,_,_,_,_,_,_, .tuple ⟨[.slice none 0 0, .int .i64 2]⟩, _,_,_,_,_,_,_,_,_,_,_,_,_,_], []⟩) rfl rfl rfl rfl ?_
          refine W.op (v := .slice none 0 0) (fr1 := ⟨[_,_,_,_,_,_,_,_,_,_,_,_,_,_,_,_,_,_,_,_,_,_,_,_,_,_,_, .slice none 0 0, _,_,_,_,_,_,_,_,_,_], []⟩) rfl rfl rfl rfl ?_
          refine W.op (v := .int .i64 2) (fr1 := ⟨[_,_,_,_,_,_,_,_,_,_,_,_,_,_,_,_,_,_,_,_,_,_,_,_,_,_,_,_, .int .i64 2, _,_,_,_,_,_,_,_,_], []⟩) rfl rfl rfl rfl ?_
          refine W.op (v := .slice none 0 0) (fr1 := ⟨[_,_,_,_,_,_,_, .slice none 0 0, _,_,_,_,_,_,_,_,_,_,_,_,_,_,_,_,_,_,_,_,_,_,_,_,_,_,_,_,_,_], []⟩) rfl rfl rfl rfl ?_
          refine W.op (v := .int .i64 2) (fr1 := ⟨[_,_,_,_,_,_,_,_, .int .i64 2, _,_,_,_,_,_,_,_,_,_,_,_,_,_,_,_,_,_,_,_,_,_,_,_,_,_,_,_,_], []⟩) rfl rfl rfl rfl ?_
          refine EndsOps.nil ?_
          refine Ends.seq ?_
          refine Ends.region ?_
          refine W.op (v := .iface 37 (.int .i64 2)) (fr1 := ⟨[_,_,_,_,_,_,_,_,_,_,_,_,_,_,_,_,_,_,_,_,_,_,_,_,_,_,_,_,_, .iface 37 (.int .i64 2), _,_,_,_,_,_,_,_], []⟩) rfl rfl rfl rfl ?_
          refine W.call (ar := [.iface 37 (.int .i64 2)]) (X := .int .i64 2) (fr1 := ⟨[_,_,_,_,_,_,_,_,_,_,_,_,_,_,_,_,_,_,_,_,_,_,_,_,_,_,_,_,_,_, .int .i64 2, _,_,_,_,_,_,_], []⟩) hO85 rfl rfl rfl rfl (c22 _ (by decide) _) rfl ?_
          intro s87 hO88 hS89
          refine W.op (v := .int .i64 2) (fr1 := ⟨[_,_,_,_,_,_,_,_,_,_,_,_,_,_,_,_,_,_,_,_,_,_,_,_,_,_,_,_,_,_,_, .int .i64 2, _,_,_,_,_,_], []⟩) rfl rfl rfl rfl ?_
          refine W.op (v := .bool true) (fr1 := ⟨[_,_,_,_,_,_,_,_,_,_,_,_,_,_,_,_,_,_,_,_,_,_,_,_,_,_,_,_,_,_,_,_, .bool true, _,_,_,_,_], []⟩) rfl rfl rfl rfl ?_
          refine W.op (v := .bool true) (fr1 := ⟨[_,_,_,_,_,_,_,_,_,_,_,_,_,_,_,_,_,_,_,_,_,_,_,_,_,_,_,_,_,_,_,_,_, .bool true, _,_,_,_], []⟩) rfl rfl rfl rfl ?_
          refine W.op (v := .slice none 0 0) (fr1 := ⟨[_,_,_,_,_,_,_,_,_,_,_,_,_,_,_,_,_,_,_,_,_,_,_,_,_,_,_,_,_,_,_,_,_,_, .slice none 0 0, _,_,_], []⟩) rfl rfl rfl rfl ?_
          refine W.op (v := .slice none 0 0) (fr1 := ⟨[_,_,_,_,_,_,_,_,_,_,_,_,_,_,_,_,_,_,_,_,_,_,_,_,_,_,_,_,_,_,_,_,_,_,_, .slice none 0 0, _,_], []⟩) rfl rfl rfl rfl ?_
          refine W.call (ar := [.slice none 0 0, .slice none 0 0]) (X := .bool true) (fr1 := ⟨[_,_,_,_,_,_,_,_,_,_,_,_,_,_,_,_,_,_,_,_,_,_,_,_,_,_,_,_,_,_,_,_,_,_,_,_, .bool true, _], []⟩) hO88 rfl rfl rfl rfl (c43 none [] 0 0 0 [] 0 0 none [] 0 0 0 [] 0 0 rfl _ NE.nil NE.nil slNil slNil) rfl ?_
          intro s90 hO91 hS92
          refine W.op (v := .bool true) (fr1 := ⟨[_,_,_,_,_,_,_,_,_,_,_,_,_,_,_,_,_,_,_,_,_,_,_,_,_,_,_,_,_,_,_,_,_,_,_,_,_, .bool true], []⟩) rfl rfl rfl rfl ?_
          refine W.op (v := .bool true) (fr1 := ⟨[_,_,_,_, .bool true, _,_,_,_,_,_,_,_,_,_,_,_,_,_,_,_,_,_,_,_,_,_,_,_,_,_,_,_,_,_,_,_,_], []⟩) rfl rfl rfl rfl ?_
          refine EndsOps.nil ?_
          refine Ends.ret ?_
          exact ⟨rfl, rfl, hO91, by
            show Value.bool true = Value.bool true
            rfl⟩
      · skip
        refine W.call (ar := [.slice aa a.length ca, .slice ab b.length cb]) (X := .tuple ⟨[.slice none 0 0, .iface 37 (.int .i64 2)]⟩) (fr1 := ⟨[_,_,_,_,_,_,_,_,_,_,_,_,_,_,_,_,_,_,_,_, .tuple ⟨[.slice none 0 0, .iface 37 (.int .i64 2)]⟩, _,_,_,_,_,_,_,_,_,_,_,_,_,_,_,_,_], []⟩) hO16 rfl rfl rfl rfl ((c41 _ a _ _ _ _ _ _ _ b _ _ _ _ _ _ hA Ka Kb _ (Ha.own hO16) (Hb.own hO16)).mono fun v _ _ h => h.2.1 fun hh => h18 hh.1) rfl ?_
        intro s93 hO94 hS95
        refine W.op (v := .tuple ⟨[.slice none 0 0, .iface 37 (.int .i64 2)]⟩) (fr1 := ⟨[_,_,_,_,_,_,_,_,_,_,_,_,_,_,_,_,_, .tuple ⟨[.slice none 0 0, .iface 37 (.int .i64 2)]⟩, _,_,_,_,_,_,_,_,_,_,_,_,_,_,_,_,_,_,_,_], []⟩) rfl rfl rfl rfl ?_
        refine W.op (v := .slice none 0 0) (fr1 := ⟨[_,_,_,_,_,_,_,_,_,_,_,_,_,_,_,_,_,_,_,_,_, .slice none 0 0, _,_,_,_,_,_,_,_,_,_,_,_,_,_,_,_], []⟩) rfl rfl rfl rfl ?_
        refine W.op (v := .iface 37 (.int .i64 2)) (fr1 := ⟨[_,_,_,_,_,_,_,_,_,_,_,_,_,_,_,_,_,_,_,_,_,_, .iface 37 (.int .i64 2), _,_,_,_,_,_,_,_,_,_,_,_,_,_,_], []⟩) rfl rfl rfl rfl ?_
        refine W.op (v := .slice none 0 0) (fr1 := ⟨[_,_,_,_,_, .slice none 0 0, _,_,_,_,_,_,_,_,_,_,_,_,_,_,_,_,_,_,_,_,_,_,_,_,_,_,_,_,_,_,_,_], []⟩) rfl rfl rfl rfl ?_
        refine W.op (v := .iface 37 (.int .i64 2)) (fr1 := ⟨[_,_,_,_,_,_, .iface 37 (.int .i64 2), _,_,_,_,_,_,_,_,_,_,_,_,_,_,_,_,_,_,_,_,_,_,_,_,_,_,_,_,_,_,_], []⟩) rfl rfl rfl rfl ?_
        refine EndsOps.nil ?_
        refine Ends.seq ?_
        refine Ends.region ?_
        refine W.op (v := .slice aa a.length ca) (fr1 := ⟨[_,_,_,_,_,_,_,_,_,_,_,_,_,_,_,_,_,_,_,_,_,_,_,_, .slice aa a.length ca, _,_,_,_,_,_,_,_,_,_,_,_,_], []⟩) rfl rfl rfl rfl ?_
        refine W.op (v := .slice ab b.length cb) (fr1 := ⟨[_,_,_,_,_,_,_,_,_,_,_,_,_,_,_,_,_,_,_,_,_,_,_,_,_, .slice ab b.length cb, _,_,_,_,_,_,_,_,_,_,_,_], []⟩) rfl rfl rfl rfl ?_
        refine W.call (ar := [.slice aa a.length ca, .slice ab b.length cb]) (X := .tuple ⟨[.slice none 0 0, .int .i64 2]⟩) (fr1 := ⟨[_,_,_,_,_,_,_,_,_,_,_,_,_,_,_,_,_,_,_,_,_,_,_,_,_,_, .tuple ⟨[.slice none 0 0, .int .i64 2]⟩, _,_,_,_,_,_,_,_,_,_,_], []⟩) hO94 rfl rfl rfl rfl ((c42 _ a _ _ _ _ _ _ _ b _ _ _ _ _ _ hA Ka Kb _ (Ha.own hO94) (Hb.own hO94)).mono fun v _ _ h => h.2.1 fun hh => h18 hh.1) rfl ?_
        intro s96 hO97 hS98
        refine W.op (v := .tuple ⟨[.slice none 0 0, .int .i64 2]⟩) (fr1 := ⟨[_,_,_,_,_,_,_,_,_,_,_,_,_,_,_,_,_,_,_,_,_,_,_, .tuple ⟨[.slice none 0 0, .int .i64 2]⟩, _,_,_,_,_,_,_,_,_,_,_,_,_,_], []⟩) rfl rfl rfl rfl ?_
        refine W.op (v := .slice none 0 0) (fr1 := ⟨[_,_,_,_,_,_,_,_,_,_,_,_,_,_,_,_,_,_,_,_,_,_,_,_,_,_,_, .slice none 0 0, _,_,_,_,_,_,_,_,_,_], []⟩) rfl rfl rfl rfl ?_
        refine W.op (v := .int .i64 2) (fr1 := ⟨[_,_,_,_,_,_,_,_,_,_,_,_,_,_,_,_,_,_,_,_,_,_,_,_,_,_,_,_, .int .i64 2, _,_,_,_,_,_,_,_,_], []⟩) rfl rfl rfl rfl ?_
        refine W.op (v := .slice none 0 0) (fr1 := ⟨[_,_,_,_,_,_,_, .slice none 0 0, _,_,_,_,_,_,_,_,_,_,_,_,_,_,_,_,_,_,_,_,_,_,_,_,_,_,_,_,_,_], []⟩) rfl rfl rfl rfl ?_
        refine W.op (v := .int .i64 2) (fr1 := ⟨[_,_,_,_,_,_,_,_, .int .i64 2, _,_,_,_,_,_,_,_,_,_,_,_,_,_,_,_,_,_,_,_,_,_,_,_,_,_,_,_,_], []⟩) rfl rfl rfl rfl ?_
        refine EndsOps.nil ?_
        refine Ends.seq ?_
        refine Ends.region ?_
        refine W.op (v := .iface 37 (.int .i64 2)) (fr1 := ⟨[_,_,_,_,_,_,_,_,_,_,_,_,_,_,_,_,_,_,_,_,_,_,_,_,_,_,_,_,_, .iface 37 (.int .i64 2), _,_,_,_,_,_,_,_], []⟩) rfl rfl rfl rfl ?_
        refine W.call (ar := [.iface 37 (.int .i64 2)]) (X := .int .i64 2) (fr1 := ⟨[_,_,_,_,_,_,_,_,_,_,_,_,_,_,_,_,_,_,_,_,_,_,_,_,_,_,_,_,_,_, .int .i64 2, _,_,_,_,_,_,_], []⟩) hO97 rfl rfl rfl rfl (c22 _ (by decide) _) rfl ?_
        intro s99 hO100 hS101
        refine W.op (v := .int .i64 2) (fr1 := ⟨[_,_,_,_,_,_,_,_,_,_,_,_,_,_,_,_,_,_,_,_,_,_,_,_,_,_,_,_,_,_,_, .int .i64 2, _,_,_,_,_,_], []⟩) rfl rfl rfl rfl ?_
        refine W.op (v := .bool true) (fr1 := ⟨[_,_,_,_,_,_,_,_,_,_,_,_,_,_,_,_,_,_,_,_,_,_,_,_,_,_,_,_,_,_,_,_, .bool true, _,_,_,_,_], []⟩) rfl rfl rfl rfl ?_
        refine W.op (v := .bool true) (fr1 := ⟨[_,_,_,_,_,_,_,_,_,_,_,_,_,_,_,_,_,_,_,_,_,_,_,_,_,_,_,_,_,_,_,_,_, .bool true, _,_,_,_], []⟩) rfl rfl rfl rfl ?_
        refine W.op (v := .slice none 0 0) (fr1 := ⟨[_,_,_,_,_,_,_,_,_,_,_,_,_,_,_,_,_,_,_,_,_,_,_,_,_,_,_,_,_,_,_,_,_,_, .slice none 0 0, _,_,_], []⟩) rfl rfl rfl rfl ?_
        refine W.op (v := .slice none 0 0) (fr1 := ⟨[_,_,_,_,_,_,_,_,_,_,_,_,_,_,_,_,_,_,_,_,_,_,_,_,_,_,_,_,_,_,_,_,_,_,_, .slice none 0 0, _,_], []⟩) rfl rfl rfl rfl ?_
        refine W.call (ar := [.slice none 0 0, .slice none 0 0]) (X := .bool true) (fr1 := ⟨[_,_,_,_,_,_,_,_,_,_,_,_,_,_,_,_,_,_,_,_,_,_,_,_,_,_,_,_,_,_,_,_,_,_,_,_, .bool true, _], []⟩) hO100 rfl rfl rfl rfl (c43 none [] 0 0 0 [] 0 0 none [] 0 0 0 [] 0 0 rfl _ NE.nil NE.nil slNil slNil) rfl ?_
        intro s102 hO103 hS104
        refine W.op (v := .bool true) (fr1 := ⟨[_,_,_,_,_,_,_,_,_,_,_,_,_,_,_,_,_,_,_,_,_,_,_,_,_,_,_,_,_,_,_,_,_,_,_,_,_, .bool true], []⟩) rfl rfl rfl rfl ?_
        refine W.op (v := .bool true) (fr1 := ⟨[_,_,_,_, .bool true, _,_,_,_,_,_,_,_,_,_,_,_,_,_,_,_,_,_,_,_,_,_,_,_,_,_,_,_,_,_,_,_,_], []⟩) rfl rfl rfl rfl ?_
        refine EndsOps.nil ?_
        refine Ends.ret ?_
        exact ⟨rfl, rfl, hO103, by
          show Value.bool true = Value.bool true
          rfl⟩
end Go.Ev.R1
