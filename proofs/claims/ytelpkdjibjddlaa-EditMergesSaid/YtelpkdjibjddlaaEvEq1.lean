/-
  EV: contracts of the first seat's functions.
-/
import Derived.Test.YtelpkdjibjddlaaEvC2
import Derived.Test.YtelpkdjibjddlaaEvApplyLaw
namespace Go.Ev.R1.Q
open Go Go.Ev Go.Ev.R1 Go.Proofs
set_option maxRecDepth 10000
set_option maxHeartbeats 4000000

theorem eq97 (a b c d : Int) (x y : ByteArray) : equalF R1.T 50 97 (.agg ⟨[.int .i64 a, .int .i64 b, .string x]⟩) (.agg ⟨[.int .i64 c, .int .i64 d, .string y]⟩) = (match some (a == c) with | some true => (match some (b == d) with | some true => (match some (x.data.toList == y.data.toList) with | some true => some true | r => r) | r => r) | r => r) := by kernel_rfl
theorem ne97 (a b c d : Int) (x y : ByteArray) (z : Bool) : binop R1.T .neq 97 z (.agg ⟨[.int .i64 a, .int .i64 b, .string x]⟩) (.agg ⟨[.int .i64 c, .int .i64 d, .string y]⟩) = (equalF R1.T 50 97 (.agg ⟨[.int .i64 a, .int .i64 b, .string x]⟩) (.agg ⟨[.int .i64 c, .int .i64 d, .string y]⟩)).map fun b => Value.bool (!b) := rfl
theorem ed97neqT {a b c d : Int} {x y : ByteArray} {z : Bool} (h : a = c ∧ b = d ∧ B x = B y) : binop R1.T .neq 97 z (.agg ⟨[.int .i64 a, .int .i64 b, .string x]⟩) (.agg ⟨[.int .i64 c, .int .i64 d, .string y]⟩) = some (.bool false) := by
  have h3 : x.data.toList = y.data.toList := h.2.2
  rw [ne97, eq97]; simp [h.1, h.2.1, h3]
theorem ed97neqF {a b c d : Int} {x y : ByteArray} {z : Bool} (h : ¬ (a = c ∧ b = d ∧ B x = B y)) : binop R1.T .neq 97 z (.agg ⟨[.int .i64 a, .int .i64 b, .string x]⟩) (.agg ⟨[.int .i64 c, .int .i64 d, .string y]⟩) = some (.bool true) := by
  rw [ne97, eq97]
  by_cases h1 : a = c
  · by_cases h2 : b = d
    · have h3 : ¬ x.data = y.data := fun h3 => h ⟨h1, h2, congrArg Array.toList h3⟩
      simp [h1, h2, h3]
    · simp [h1, h2]
  · simp [h1]

theorem c33 (aa : Option Addr) (a : List Ed) (ca Na oa : Nat) (va : List Value) (ya za : Nat) (ab : Option Addr) (b : List Ed) (cb Nb ob : Nat) (vb : List Value) (yb zb : Nat) (s : St) (Ha : Sl Ed.cells 3 s.t s.next aa a Na oa va ya za) (Hb : Sl Ed.cells 3 s.t s.next ab b Nb ob vb yb zb)  : EndsPure R1.T 33 [.slice aa a.length ca, .slice ab b.length cb] s (fun v _ _ => v = .bool (decide (a = b))) := by
  refine EndsPure.of (rs := [4]) (fr0 := ⟨[.slice aa a.length ca, .slice ab b.length cb, undef, undef, undef, undef, undef, undef, undef, undef, undef, undef, undef, undef, undef, undef, undef, undef, undef, undef, undef, undef, undef, undef, undef, undef], []⟩) (by kernel_rfl : R1.T.fn 33 = some ⟨26, (Try.f33.body).getD .skip, [.tmp 4]⟩) rfl ?_
  have hO0 := Own.refl s
  have Ma := Ha.small
  have Mb := Hb.small
  simp only [Try.f33, Option.getD]
  refine Ends.seq ?_
  refine Ends.region ?_
  refine W.op (v := .bool false) (fr1 := ⟨[_,_,_,_, .bool false, _,_,_,_,_,_,_,_,_,_,_,_,_,_,_,_,_,_,_,_,_], []⟩) rfl rfl rfl rfl ?_
  refine EndsOps.nil ?_
  refine Ends.seq ?_
  refine Ends.seq ?_
  refine Ends.region ?_
  refine W.op (v := .slice aa a.length ca) (fr1 := ⟨[_,_,_,_,_,_, .slice aa a.length ca, _,_,_,_,_,_,_,_,_,_,_,_,_,_,_,_,_,_,_], []⟩) rfl rfl rfl rfl ?_
  refine W.op (v := .int .i64 ((a.length : Nat) : Int)) (fr1 := ⟨[_,_,_,_,_,_,_, .int .i64 ((a.length : Nat) : Int), _,_,_,_,_,_,_,_,_,_,_,_,_,_,_,_,_,_], []⟩) rfl rfl rfl rfl ?_
  refine W.op (v := .slice ab b.length cb) (fr1 := ⟨[_,_,_,_,_,_,_,_, .slice ab b.length cb, _,_,_,_,_,_,_,_,_,_,_,_,_,_,_,_,_], []⟩) rfl rfl rfl rfl ?_
  refine W.op (v := .int .i64 ((b.length : Nat) : Int)) (fr1 := ⟨[_,_,_,_,_,_,_,_,_, .int .i64 ((b.length : Nat) : Int), _,_,_,_,_,_,_,_,_,_,_,_,_,_,_,_], []⟩) rfl rfl rfl rfl ?_
  by_cases h1 : ((a.length : Nat) : Int) = ((b.length : Nat) : Int)
  · skip
    refine W.op (v := .bool false) (fr1 := ⟨[_,_,_,_,_,_,_,_,_,_, .bool false, _,_,_,_,_,_,_,_,_,_,_,_,_,_,_], []⟩) rfl (p_bin (neF h1)) rfl rfl ?_
    refine EndsOps.nil ?_
    refine Ends.condF rfl ?_
    refine Ends.skip ?_
    refine Ends.seq ?_
    refine Ends.seq ?_
    refine Ends.region ?_
    refine W.op (v := .slice aa a.length ca) (fr1 := ⟨[_,_,_,_,_,_,_,_,_,_,_, .slice aa a.length ca, _,_,_,_,_,_,_,_,_,_,_,_,_,_], []⟩) rfl rfl rfl rfl ?_
    refine W.op (v := .int .i64 ((a.length : Nat) : Int)) (fr1 := ⟨[_,_,_,_,_,_,_,_,_,_,_,_, .int .i64 ((a.length : Nat) : Int), _,_,_,_,_,_,_,_,_,_,_,_,_], []⟩) rfl rfl rfl rfl ?_
    refine W.op (v := .int .i64 0) (fr1 := ⟨[_,_,_,_,_,_,_,_,_,_,_,_,_, .int .i64 0, _,_,_,_,_,_,_,_,_,_,_,_], []⟩) rfl rfl rfl rfl ?_
    refine EndsOps.nil ?_
    refine W.block ?_
    refine Ends.loopInv (fun d fr s1 => ∃ (i : Nat) (j4 j5 j14 j15 j16 j17 j18 j19 j20 j21 j22 j23 j24 j25 : Value), fr = ⟨[.slice aa a.length ca, .slice ab b.length cb, undef, undef, j4, j5, .slice aa a.length ca, .int .i64 ((a.length : Nat) : Int), .slice ab b.length cb, .int .i64 ((b.length : Nat) : Int), .bool false, .slice aa a.length ca, .int .i64 ((a.length : Nat) : Int), .int .i64 ((i : Nat) : Int), j14, j15, j16, j17, j18, j19, j20, j21, j22, j23, j24, j25], []⟩ ∧ Own s s1 ∧ d = a.length - i ∧ (i ≤ a.length) ∧ (∀ k, k < i → a[k]? = b[k]?)) ?_ _ _ _ ⟨0, _, _, _, _, _, _, _, _, _, _, _, _, _, _, rfl, hO0, rfl, Nat.zero_le _, fun k hk => absurd hk (Nat.not_lt_zero k)⟩
    rintro d _ s2 ⟨i, j4, j5, j14, j15, j16, j17, j18, j19, j20, j21, j22, j23, j24, j25, rfl, hO3, hd4, hi, hE⟩
    refine Ends.seq ?_
    refine Ends.region ?_
    by_cases h5 : ((i : Nat) : Int) < ((a.length : Nat) : Int)
    · skip
      refine W.op (v := .bool true) (fr1 := ⟨[_,_,_,_,_,_,_,_,_,_,_,_,_,_, .bool true, _,_,_,_,_,_,_,_,_,_,_], []⟩) rfl (p_bin (ltT h5)) rfl rfl ?_
      refine EndsOps.nil ?_
      refine Ends.seq ?_
      refine Ends.condT rfl ?_
      refine Ends.skip ?_
      refine Ends.seq ?_
      refine W.block ?_
      refine Ends.seq ?_
      refine Ends.region ?_
      refine W.op (v := .int .i64 ((i : Nat) : Int)) (fr1 := ⟨[_,_,_,_,_,_,_,_,_,_,_,_,_,_,_, .int .i64 ((i : Nat) : Int), _,_,_,_,_,_,_,_,_,_], []⟩) rfl rfl rfl rfl ?_
      refine W.op (v := .int .i64 ((i : Nat) : Int)) (fr1 := ⟨[_,_,_,_,_, .int .i64 ((i : Nat) : Int), _,_,_,_,_,_,_,_,_,_,_,_,_,_,_,_,_,_,_,_], []⟩) rfl rfl rfl rfl ?_
      refine EndsOps.nil ?_
      refine Ends.seq ?_
      refine Ends.drawW (bef := [0, 0, 3, 7, 0, 0, 48, 112, 255]) (by kernel_rfl) ?_
      refine D.op (v := .slice aa a.length ca) (fr1 := ⟨[_,_,_,_,_,_,_,_,_,_,_,_,_,_,_,_, .slice aa a.length ca, _,_,_,_,_,_,_,_,_], []⟩) rfl rfl rfl rfl rfl ?_
      refine D.op (v := .int .i64 ((i : Nat) : Int)) (fr1 := ⟨[_,_,_,_,_,_,_,_,_,_,_,_,_,_,_,_,_, .int .i64 ((i : Nat) : Int), _,_,_,_,_,_,_,_], []⟩) rfl rfl rfl rfl rfl ?_
      obtain ⟨e6, he7⟩ := ex_at (l := a) (i := i) (by omega)
      refine D.op (v := .pointer (some ⟨Na, oa + i * 3, none⟩)) (fr1 := ⟨[_,_,_,_,_,_,_,_,_,_,_,_,_,_,_,_,_,_, .pointer (some ⟨Na, oa + i * 3, none⟩), _,_,_,_,_,_,_], []⟩) rfl (p_ix (Sl.ix Ha rfl rfl he7 _)) rfl rfl rfl ?_
      refine D.load (v := .agg ⟨[.int .i64 e6.lo, .int .i64 e6.hi, .string e6.tx]⟩) (fr1 := ⟨[_,_,_,_,_,_,_,_,_,_,_,_,_,_,_,_,_,_,_, .agg ⟨[.int .i64 e6.lo, .int .i64 e6.hi, .string e6.tx]⟩, _,_,_,_,_,_], []⟩) rfl rfl rfl (fun _ h => by cases h) (fun s1 hg => (p_loadA ⟨hg.trans ((Sl.row' (Ha.own hO3) he7)).get, ((Sl.row' (Ha.own hO3) he7)).lt⟩ rfl rfl rfl rfl ((Ha.own hO3).get _ _ he7))) rfl ?_
      refine D.op (v := .slice ab b.length cb) (fr1 := ⟨[_,_,_,_,_,_,_,_,_,_,_,_,_,_,_,_,_,_,_,_, .slice ab b.length cb, _,_,_,_,_], []⟩) rfl rfl rfl rfl rfl ?_
      refine D.op (v := .int .i64 ((i : Nat) : Int)) (fr1 := ⟨[_,_,_,_,_,_,_,_,_,_,_,_,_,_,_,_,_,_,_,_,_, .int .i64 ((i : Nat) : Int), _,_,_,_], []⟩) rfl rfl rfl rfl rfl ?_
      obtain ⟨e8, he9⟩ := ex_at (l := b) (i := i) (by omega)
      refine D.op (v := .pointer (some ⟨Nb, ob + i * 3, none⟩)) (fr1 := ⟨[_,_,_,_,_,_,_,_,_,_,_,_,_,_,_,_,_,_,_,_,_,_, .pointer (some ⟨Nb, ob + i * 3, none⟩), _,_,_], []⟩) rfl (p_ix (Sl.ix Hb rfl rfl he9 _)) rfl rfl rfl ?_
      refine D.load (v := .agg ⟨[.int .i64 e8.lo, .int .i64 e8.hi, .string e8.tx]⟩) (fr1 := ⟨[_,_,_,_,_,_,_,_,_,_,_,_,_,_,_,_,_,_,_,_,_,_,_, .agg ⟨[.int .i64 e8.lo, .int .i64 e8.hi, .string e8.tx]⟩, _,_], []⟩) rfl rfl rfl (fun _ h => by cases h) (fun s1 hg => (p_loadA ⟨hg.trans ((Sl.row' (Hb.own hO3) he9)).get, ((Sl.row' (Hb.own hO3) he9)).lt⟩ rfl rfl rfl rfl ((Hb.own hO3).get _ _ he9))) rfl ?_
      by_cases h10 : e6.lo = e8.lo ∧ e6.hi = e8.hi ∧ B e6.tx = B e8.tx
      · skip
        refine D.op (v := .bool false) (fr1 := ⟨[_,_,_,_,_,_,_,_,_,_,_,_,_,_,_,_,_,_,_,_,_,_,_,_, .bool false, _], []⟩) rfl (p_bin (ed97neqT h10)) rfl rfl rfl ?_
        refine D.nil ?_
        refine Ends.condF rfl ?_
        refine Ends.skip ?_
        refine Ends.region ?_
        refine W.op (v := .int .i64 ((i + 1 : Nat) : Int)) (fr1 := ⟨[_,_,_,_,_,_,_,_,_,_,_,_,_,_,_,_,_,_,_,_,_,_,_,_,_, .int .i64 ((i + 1 : Nat) : Int)], []⟩) rfl (p_bin (addI (by omega) (by omega) (by omega))) rfl rfl ?_
        refine W.op (v := .int .i64 ((i + 1 : Nat) : Int)) (fr1 := ⟨[_,_,_,_,_,_,_,_,_,_,_,_,_, .int .i64 ((i + 1 : Nat) : Int), _,_,_,_,_,_,_,_,_,_,_,_], []⟩) rfl rfl rfl rfl ?_
        refine EndsOps.nil ?_
        exact ⟨_, (by omega), i + 1, _, _, _, _, _, _, _, _, _, _, _, _, _, _, rfl, hO3, rfl, by omega, same_step hE he7 he9 h10⟩
      · skip
        refine D.op (v := .bool true) (fr1 := ⟨[_,_,_,_,_,_,_,_,_,_,_,_,_,_,_,_,_,_,_,_,_,_,_,_, .bool true, _], []⟩) rfl (p_bin (ed97neqF h10)) rfl rfl rfl ?_
        refine D.nil ?_
        refine Ends.condT rfl ?_
        refine Ends.seq ?_
        refine Ends.region ?_
        refine W.op (v := .bool false) (fr1 := ⟨[_,_,_,_, .bool false, _,_,_,_,_,_,_,_,_,_,_,_,_,_,_,_,_,_,_,_,_], []⟩) rfl rfl rfl rfl ?_
        refine EndsOps.nil ?_
        refine Ends.ret ?_
        exact ⟨rfl, rfl, hO3, by
          show Value.bool false = .bool (decide (a = b))
          exact congrArg Value.bool (decide_eq_false fun hh => h10 (by subst hh; rw [he7] at he9; cases he9; exact ⟨rfl, rfl, rfl⟩)).symm⟩
    · skip
      refine W.op (v := .bool false) (fr1 := ⟨[_,_,_,_,_,_,_,_,_,_,_,_,_,_, .bool false, _,_,_,_,_,_,_,_,_,_,_], []⟩) rfl (p_bin (ltF h5)) rfl rfl ?_
      refine EndsOps.nil ?_
      refine Ends.seq ?_
      refine Ends.condF rfl ?_
      refine Ends.exit ?_
      refine W.outT rfl ?_
      refine Ends.seq ?_
      refine Ends.region ?_
      refine W.op (v := .bool true) (fr1 := ⟨[_,_,_,_, .bool true, _,_,_,_,_,_,_,_,_,_,_,_,_,_,_,_,_,_,_,_,_], []⟩) rfl rfl rfl rfl ?_
      refine EndsOps.nil ?_
      refine Ends.ret ?_
      exact ⟨rfl, rfl, hO3, by
        show Value.bool true = .bool (decide (a = b))
        exact congrArg Value.bool (decide_eq_true (list_same (by omega) hE (by omega))).symm⟩
  · skip
    refine W.op (v := .bool true) (fr1 := ⟨[_,_,_,_,_,_,_,_,_,_, .bool true, _,_,_,_,_,_,_,_,_,_,_,_,_,_,_], []⟩) rfl (p_bin (neT h1)) rfl rfl ?_
    refine EndsOps.nil ?_
    refine Ends.condT rfl ?_
    refine Ends.seq ?_
    refine Ends.region ?_
    refine W.op (v := .bool false) (fr1 := ⟨[_,_,_,_, .bool false, _,_,_,_,_,_,_,_,_,_,_,_,_,_,_,_,_,_,_,_,_], []⟩) rfl rfl rfl rfl ?_
    refine EndsOps.nil ?_
    refine Ends.ret ?_
    exact ⟨rfl, rfl, hO0, by
      show Value.bool false = .bool (decide (a = b))
      exact congrArg Value.bool (decide_eq_false fun hh => h1 (by rw [hh])).symm⟩
end Go.Ev.R1.Q

