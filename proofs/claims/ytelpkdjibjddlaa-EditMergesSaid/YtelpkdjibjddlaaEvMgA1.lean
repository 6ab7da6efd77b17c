/-
  EV: contracts of the first seat's functions.
-/
import Derived.Test.YtelpkdjibjddlaaEvC2
import Derived.Test.YtelpkdjibjddlaaEvMerge
import Derived.Test.YtelpkdjibjddlaaEvFiles
import Derived.Test.YtelpkdjibjddlaaEvLoop
import Derived.Test.YtelpkdjibjddlaaEvEq1
namespace Go.Ev.R1
open Go Go.Ev Go.Proofs
set_option maxRecDepth 10000
set_option maxHeartbeats 4000000

theorem app22m : AppOk R1.T 22 22 97 3 32 := ⟨by kernel_rfl, by kernel_rfl, by kernel_rfl, by kernel_rfl, ⟨_, zero97, rfl⟩, by decide, by decide⟩
theorem nil_eqT {a : Option Addr} {n cap : Nat} {c : Bool} (h : a = none) : binop R1.T .eql 22 c (.slice a n cap) (.slice none 0 0) = some (.bool true) := by subst h; kernel_rfl
theorem nil_eqF {a : Option Addr} {n cap : Nat} {c : Bool} (h : ¬ a = none) : binop R1.T .eql 22 c (.slice a n cap) (.slice none 0 0) = some (.bool false) := by
  cases a with
  | none => exact absurd rfl h
  | some x => kernel_rfl

theorem c91n (al : Option Addr) (l : List Ed) (cl Nl ol : Nat) (vl : List Value) (yl zl : Nat) (s : St) (Hl : Sl Ed.cells 3 s.t s.next al l Nl ol vl yl zl)  : EndsPure R1.T 91 [.slice al l.length cl, .func (.func 76) ⟨[]⟩ ⟨[]⟩] s (fun v _ _ => v = .int .i64 (firstP Nothing l)) := by
  refine EndsPure.of (rs := [4]) (fr0 := ⟨[.slice al l.length cl, .func (.func 76) ⟨[]⟩ ⟨[]⟩, undef, undef, undef, undef, undef, undef, undef, undef, undef, undef, undef, undef, undef, undef, undef, undef, undef], []⟩) (by kernel_rfl : R1.T.fn 91 = some ⟨19, (Try.f91.body).getD .skip, [.tmp 4]⟩) rfl ?_
  have hO0 := Own.refl s
  have Ml := Hl.small
  simp only [Try.f91, Option.getD]
  refine Ends.seq ?_
  refine Ends.region ?_
  refine W.op (v := .int .i64 0) (fr1 := ⟨[_,_,_,_, .int .i64 0, _,_,_,_,_,_,_,_,_,_,_,_,_,_], []⟩) rfl rfl rfl rfl ?_
  refine EndsOps.nil ?_
  refine Ends.seq ?_
  refine Ends.seq ?_
  refine Ends.region ?_
  refine W.op (v := .slice al l.length cl) (fr1 := ⟨[_,_,_,_,_,_, .slice al l.length cl, _,_,_,_,_,_,_,_,_,_,_,_], []⟩) rfl rfl rfl rfl ?_
  refine W.op (v := .int .i64 ((l.length : Nat) : Int)) (fr1 := ⟨[_,_,_,_,_,_,_, .int .i64 ((l.length : Nat) : Int), _,_,_,_,_,_,_,_,_,_,_], []⟩) rfl rfl rfl rfl ?_
  refine W.op (v := .int .i64 0) (fr1 := ⟨[_,_,_,_,_,_,_,_, .int .i64 0, _,_,_,_,_,_,_,_,_,_], []⟩) rfl rfl rfl rfl ?_
  refine EndsOps.nil ?_
  refine W.block ?_
  refine Ends.loopInv (fun d fr s1 => ∃ (i : Nat) (j4 j5 j9 j10 j11 j12 j13 j14 j15 j16 j17 j18 : Value), fr = ⟨[.slice al l.length cl, .func (.func 76) ⟨[]⟩ ⟨[]⟩, undef, undef, j4, j5, .slice al l.length cl, .int .i64 ((l.length : Nat) : Int), .int .i64 ((i : Nat) : Int), j9, j10, j11, j12, j13, j14, j15, j16, j17, j18], []⟩ ∧ Own s s1 ∧ d = l.length - i ∧ (i ≤ l.length) ∧ (NoB Nothing l i)) ?_ _ _ _ ⟨0, _, _, _, _, _, _, _, _, _, _, _, _, rfl, hO0, rfl, Nat.zero_le _, NoB.zero⟩
  rintro d _ s1 ⟨i, j4, j5, j9, j10, j11, j12, j13, j14, j15, j16, j17, j18, rfl, hO2, hd3, hi, hn⟩
  refine Ends.seq ?_
  refine Ends.region ?_
  by_cases h4 : ((i : Nat) : Int) < ((l.length : Nat) : Int)
  · skip
    refine W.op (v := .bool true) (fr1 := ⟨[_,_,_,_,_,_,_,_,_, .bool true, _,_,_,_,_,_,_,_,_], []⟩) rfl (p_bin (ltT h4)) rfl rfl ?_
    refine EndsOps.nil ?_
    refine Ends.seq ?_
    refine Ends.condT rfl ?_
    refine Ends.skip ?_
    refine Ends.seq ?_
    refine W.block ?_
    refine Ends.seq ?_
    refine Ends.region ?_
    refine W.op (v := .int .i64 ((i : Nat) : Int)) (fr1 := ⟨[_,_,_,_,_,_,_,_,_,_, .int .i64 ((i : Nat) : Int), _,_,_,_,_,_,_,_], []⟩) rfl rfl rfl rfl ?_
    refine W.op (v := .int .i64 ((i : Nat) : Int)) (fr1 := ⟨[_,_,_,_,_, .int .i64 ((i : Nat) : Int), _,_,_,_,_,_,_,_,_,_,_,_,_], []⟩) rfl rfl rfl rfl ?_
    refine EndsOps.nil ?_
    refine Ends.seq ?_
    refine Ends.region ?_
    refine W.op (v := .func (.func 76) ⟨[]⟩ ⟨[]⟩) (fr1 := ⟨[_,_,_,_,_,_,_,_,_,_,_, .func (.func 76) ⟨[]⟩ ⟨[]⟩, _,_,_,_,_,_,_], []⟩) rfl rfl rfl rfl ?_
    refine W.op (v := .slice al l.length cl) (fr1 := ⟨[_,_,_,_,_,_,_,_,_,_,_,_, .slice al l.length cl, _,_,_,_,_,_], []⟩) rfl rfl rfl rfl ?_
    refine W.op (v := .int .i64 ((i : Nat) : Int)) (fr1 := ⟨[_,_,_,_,_,_,_,_,_,_,_,_,_, .int .i64 ((i : Nat) : Int), _,_,_,_,_], []⟩) rfl rfl rfl rfl ?_
    obtain ⟨e5, he6⟩ := ex_at (l := l) (i := i) (by omega)
    refine W.op (v := .pointer (some ⟨Nl, ol + i * 3, none⟩)) (fr1 := ⟨[_,_,_,_,_,_,_,_,_,_,_,_,_,_, .pointer (some ⟨Nl, ol + i * 3, none⟩), _,_,_,_], []⟩) rfl (p_ix (Sl.ix Hl rfl rfl he6 _)) rfl rfl ?_
    refine W.op (v := .agg ⟨[.int .i64 e5.lo, .int .i64 e5.hi, .string e5.tx]⟩) (fr1 := ⟨[_,_,_,_,_,_,_,_,_,_,_,_,_,_,_, .agg ⟨[.int .i64 e5.lo, .int .i64 e5.hi, .string e5.tx]⟩, _,_,_], []⟩) rfl (p_loadA (Sl.row' (Hl.own hO2) he6) rfl rfl rfl rfl ((Hl.own hO2).get _ _ he6)) rfl rfl ?_
    by_cases h7 : Nothing e5
    · skip
      refine W.call (ar := [.agg ⟨[.int .i64 e5.lo, .int .i64 e5.hi, .string e5.tx]⟩]) (X := .bool true) (fr1 := ⟨[_,_,_,_,_,_,_,_,_,_,_,_,_,_,_,_, .bool true, _,_], []⟩) hO2 rfl rfl rfl rfl ((c76 e5 _).mono fun v _ _ h => h.trans (congrArg Value.bool (decide_eq_true h7))) rfl ?_
      intro s8 hO9 hS10
      refine EndsOps.nil ?_
      refine Ends.condT rfl ?_
      refine Ends.seq ?_
      refine Ends.region ?_
      refine W.op (v := .int .i64 ((i : Nat) : Int)) (fr1 := ⟨[_,_,_,_,_,_,_,_,_,_,_,_,_,_,_,_,_, .int .i64 ((i : Nat) : Int), _], []⟩) rfl rfl rfl rfl ?_
      refine W.op (v := .int .i64 ((i : Nat) : Int)) (fr1 := ⟨[_,_,_,_, .int .i64 ((i : Nat) : Int), _,_,_,_,_,_,_,_,_,_,_,_,_,_], []⟩) rfl rfl rfl rfl ?_
      refine EndsOps.nil ?_
      refine Ends.ret ?_
      exact ⟨rfl, rfl, hO9, by
        show Value.int .i64 ((i : Nat) : Int) = .int .i64 (firstP Nothing l)
        exact congrArg (Value.int IntKind.i64) (firstP_at hn he6 h7).symm⟩
    · skip
      refine W.call (ar := [.agg ⟨[.int .i64 e5.lo, .int .i64 e5.hi, .string e5.tx]⟩]) (X := .bool false) (fr1 := ⟨[_,_,_,_,_,_,_,_,_,_,_,_,_,_,_,_, .bool false, _,_], []⟩) hO2 rfl rfl rfl rfl ((c76 e5 _).mono fun v _ _ h => h.trans (congrArg Value.bool (decide_eq_false h7))) rfl ?_
      intro s11 hO12 hS13
      refine EndsOps.nil ?_
      refine Ends.condF rfl ?_
      refine Ends.skip ?_
      refine Ends.region ?_
      refine W.op (v := .int .i64 ((i + 1 : Nat) : Int)) (fr1 := ⟨[_,_,_,_,_,_,_,_,_,_,_,_,_,_,_,_,_,_, .int .i64 ((i + 1 : Nat) : Int)], []⟩) rfl (p_bin (addI (by omega) (by omega) (by omega))) rfl rfl ?_
      refine W.op (v := .int .i64 ((i + 1 : Nat) : Int)) (fr1 := ⟨[_,_,_,_,_,_,_,_, .int .i64 ((i + 1 : Nat) : Int), _,_,_,_,_,_,_,_,_,_], []⟩) rfl rfl rfl rfl ?_
      refine EndsOps.nil ?_
      exact ⟨_, (by omega), i + 1, _, _, _, _, _, _, _, _, _, _, _, _, rfl, hO12, rfl, by omega, NoB.step hn he6 h7⟩
  · skip
    refine W.op (v := .bool false) (fr1 := ⟨[_,_,_,_,_,_,_,_,_, .bool false, _,_,_,_,_,_,_,_,_], []⟩) rfl (p_bin (ltF h4)) rfl rfl ?_
    refine EndsOps.nil ?_
    refine Ends.seq ?_
    refine Ends.condF rfl ?_
    refine Ends.exit ?_
    refine W.outT rfl ?_
    refine Ends.seq ?_
    refine Ends.region ?_
    refine W.op (v := .int .i64 (-1)) (fr1 := ⟨[_,_,_,_, .int .i64 (-1), _,_,_,_,_,_,_,_,_,_,_,_,_,_], []⟩) rfl rfl rfl rfl ?_
    refine EndsOps.nil ?_
    refine Ends.ret ?_
    exact ⟨rfl, rfl, hO2, by
      show Value.int .i64 (-1) = .int .i64 (firstP Nothing l)
      exact congrArg (Value.int IntKind.i64) (firstP_none hn (by omega)).symm⟩

theorem c84 (e : Ed) (Nx zx : Nat) (x : ByteArray) (hw : Within e (((B x).length : Nat) : Int)) (s : St) (hr : Row s.t s.next Nx [.string x] 9 zx) : EndsPure R1.T 84 [.agg ⟨[.int .i64 e.lo, .int .i64 e.hi, .string e.tx]⟩, .pointer (some ⟨Nx, 0, none⟩)] s (fun v _ _ => v = .bool (decide (SameX x e))) := by
  refine EndsPure.of (rs := [3]) (fr0 := ⟨[.agg ⟨[.int .i64 e.lo, .int .i64 e.hi, .string e.tx]⟩, .pointer (some ⟨Nx, 0, none⟩), undef, undef, undef, undef, undef, undef, undef, undef, undef, undef, undef], []⟩) (by kernel_rfl : R1.T.fn 84 = some ⟨13, (Try.f84.body).getD .skip, [.tmp 3]⟩) rfl ?_
  have hO0 := Own.refl s
  simp only [Try.f84, Option.getD]
  refine Ends.seq ?_
  refine Ends.region ?_
  obtain ⟨N1, hN2⟩ : ∃ N, N = s.next := ⟨_, rfl⟩
  refine W.new (N := N1) (vs := [.int .i64 e.lo, .int .i64 e.hi, .string e.tx]) (fr1 := ⟨[_,_, .pointer (some ⟨N1, 0, none⟩), _,_,_,_,_,_,_,_,_,_], []⟩) hO0 hN2 rfl (p_box rfl) rfl rfl ?_
  intro s3 hO4 hS5 r6 hB7
  refine W.op (v := .bool false) (fr1 := ⟨[_,_,_, .bool false, _,_,_,_,_,_,_,_,_], []⟩) rfl rfl rfl rfl ?_
  refine EndsOps.nil ?_
  refine Ends.seq ?_
  refine Ends.drawW (bef := [0, 0, 2, 0, 8, 31, 0, 64, 255, 511]) (by kernel_rfl) ?_
  refine D.load (v := .string x) (fr1 := ⟨[_,_,_,_, .string x, _,_,_,_,_,_,_,_], []⟩) rfl rfl rfl (fun _ h => by cases h) (fun s1 hg => (p_load1 ⟨hg.trans ((hr.own hO4)).get, ((hr.own hO4)).lt⟩ rfl rfl rfl rfl)) rfl ?_
  refine D.op (v := .pointer (some ⟨N1, 0, none⟩)) (fr1 := ⟨[_,_,_,_,_, .pointer (some ⟨N1, 0, none⟩), _,_,_,_,_,_,_], []⟩) rfl rfl rfl rfl rfl ?_
  refine D.load (v := .int .i64 e.lo) (fr1 := ⟨[_,_,_,_,_,_, .int .i64 e.lo, _,_,_,_,_,_], []⟩) rfl rfl rfl (fun _ h => by cases h) (fun s1 hg => (p_load1 ⟨hg.trans (r6).get, (r6).lt⟩ rfl rfl rfl rfl)) rfl ?_
  refine D.op (v := .pointer (some ⟨N1, 1, none⟩)) (fr1 := ⟨[_,_,_,_,_,_,_, .pointer (some ⟨N1, 1, none⟩), _,_,_,_,_], []⟩) rfl rfl rfl rfl rfl ?_
  refine D.load (v := .int .i64 e.hi) (fr1 := ⟨[_,_,_,_,_,_,_,_, .int .i64 e.hi, _,_,_,_], []⟩) rfl rfl rfl (fun _ h => by cases h) (fun s1 hg => (p_load1 ⟨hg.trans (r6).get, (r6).lt⟩ rfl rfl rfl rfl)) rfl ?_
  refine D.op (v := .string (sub x e.lo.toNat e.hi.toNat)) (fr1 := ⟨[_,_,_,_,_,_,_,_,_, .string (sub x e.lo.toNat e.hi.toNat), _,_,_], []⟩) rfl (p_sub rfl rfl rfl rfl (by omega) (by omega) (by omega)) rfl rfl rfl ?_
  refine D.op (v := .pointer (some ⟨N1, 2, none⟩)) (fr1 := ⟨[_,_,_,_,_,_,_,_,_,_, .pointer (some ⟨N1, 2, none⟩), _,_], []⟩) rfl rfl rfl rfl rfl ?_
  refine D.load (v := .string e.tx) (fr1 := ⟨[_,_,_,_,_,_,_,_,_,_,_, .string e.tx, _], []⟩) rfl rfl rfl (fun _ h => by cases h) (fun s1 hg => (p_load1 ⟨hg.trans (r6).get, (r6).lt⟩ rfl rfl rfl rfl)) rfl ?_
  by_cases h8 : B (sub x e.lo.toNat e.hi.toNat) = B e.tx
  · skip
    refine D.op (v := .bool true) (fr1 := ⟨[_,_,_,_,_,_,_,_,_,_,_,_, .bool true], []⟩) rfl (p_bin (seqT h8)) rfl rfl rfl ?_
    refine D.op (v := .bool true) (fr1 := ⟨[_,_,_, .bool true, _,_,_,_,_,_,_,_,_], []⟩) rfl rfl rfl rfl rfl ?_
    refine D.nil ?_
    refine Ends.ret ?_
    exact ⟨rfl, rfl, hO4, by
      show Value.bool true = .bool (decide (SameX x e))
      simp only [SameX, decide_true, decide_false, *]⟩
  · skip
    refine D.op (v := .bool false) (fr1 := ⟨[_,_,_,_,_,_,_,_,_,_,_,_, .bool false], []⟩) rfl (p_bin (seqF h8)) rfl rfl rfl ?_
    refine D.op (v := .bool false) (fr1 := ⟨[_,_,_, .bool false, _,_,_,_,_,_,_,_,_], []⟩) rfl rfl rfl rfl rfl ?_
    refine D.nil ?_
    refine Ends.ret ?_
    exact ⟨rfl, rfl, hO4, by
      show Value.bool false = .bool (decide (SameX x e))
      simp only [SameX, decide_true, decide_false, *]⟩

theorem c91w (Nx zx : Nat) (x : ByteArray) (al : Option Addr) (l : List Ed) (cl Nl ol : Nat) (vl : List Value) (yl zl : Nat) (s : St) (Hl : Sl Ed.cells 3 s.t s.next al l Nl ol vl yl zl) (hr : Row s.t s.next Nx [.string x] 9 zx) (hW : ∀ e ∈ l, Within e (((B x).length : Nat) : Int))  : EndsPure R1.T 91 [.slice al l.length cl, .func (.func 84) ⟨[]⟩ ⟨[.pointer (some ⟨Nx, 0, none⟩)]⟩] s (fun v _ _ => v = .int .i64 (firstP (SameX x) l)) := by
  refine EndsPure.of (rs := [4]) (fr0 := ⟨[.slice al l.length cl, .func (.func 84) ⟨[]⟩ ⟨[.pointer (some ⟨Nx, 0, none⟩)]⟩, undef, undef, undef, undef, undef, undef, undef, undef, undef, undef, undef, undef, undef, undef, undef, undef, undef], []⟩) (by kernel_rfl : R1.T.fn 91 = some ⟨19, (Try.f91.body).getD .skip, [.tmp 4]⟩) rfl ?_
  have hO0 := Own.refl s
  have Ml := Hl.small
  simp only [Try.f91, Option.getD]
  refine Ends.seq ?_
  refine Ends.region ?_
  refine W.op (v := .int .i64 0) (fr1 := ⟨[_,_,_,_, .int .i64 0, _,_,_,_,_,_,_,_,_,_,_,_,_,_], []⟩) rfl rfl rfl rfl ?_
  refine EndsOps.nil ?_
  refine Ends.seq ?_
  refine Ends.seq ?_
  refine Ends.region ?_
  refine W.op (v := .slice al l.length cl) (fr1 := ⟨[_,_,_,_,_,_, .slice al l.length cl, _,_,_,_,_,_,_,_,_,_,_,_], []⟩) rfl rfl rfl rfl ?_
  refine W.op (v := .int .i64 ((l.length : Nat) : Int)) (fr1 := ⟨[_,_,_,_,_,_,_, .int .i64 ((l.length : Nat) : Int), _,_,_,_,_,_,_,_,_,_,_], []⟩) rfl rfl rfl rfl ?_
  refine W.op (v := .int .i64 0) (fr1 := ⟨[_,_,_,_,_,_,_,_, .int .i64 0, _,_,_,_,_,_,_,_,_,_], []⟩) rfl rfl rfl rfl ?_
  refine EndsOps.nil ?_
  refine W.block ?_
  refine Ends.loopInv (fun d fr s1 => ∃ (i : Nat) (j4 j5 j9 j10 j11 j12 j13 j14 j15 j16 j17 j18 : Value), fr = ⟨[.slice al l.length cl, .func (.func 84) ⟨[]⟩ ⟨[.pointer (some ⟨Nx, 0, none⟩)]⟩, undef, undef, j4, j5, .slice al l.length cl, .int .i64 ((l.length : Nat) : Int), .int .i64 ((i : Nat) : Int), j9, j10, j11, j12, j13, j14, j15, j16, j17, j18], []⟩ ∧ Own s s1 ∧ d = l.length - i ∧ (i ≤ l.length) ∧ (NoB (SameX x) l i)) ?_ _ _ _ ⟨0, _, _, _, _, _, _, _, _, _, _, _, _, rfl, hO0, rfl, Nat.zero_le _, NoB.zero⟩
  rintro d _ s1 ⟨i, j4, j5, j9, j10, j11, j12, j13, j14, j15, j16, j17, j18, rfl, hO2, hd3, hi, hn⟩
  refine Ends.seq ?_
  refine Ends.region ?_
  by_cases h4 : ((i : Nat) : Int) < ((l.length : Nat) : Int)
  · skip
    refine W.op (v := .bool true) (fr1 := ⟨[_,_,_,_,_,_,_,_,_, .bool true, _,_,_,_,_,_,_,_,_], []⟩) rfl (p_bin (ltT h4)) rfl rfl ?_
    refine EndsOps.nil ?_
    refine Ends.seq ?_
    refine Ends.condT rfl ?_
    refine Ends.skip ?_
    refine Ends.seq ?_
    refine W.block ?_
    refine Ends.seq ?_
    refine Ends.region ?_
    refine W.op (v := .int .i64 ((i : Nat) : Int)) (fr1 := ⟨[_,_,_,_,_,_,_,_,_,_, .int .i64 ((i : Nat) : Int), _,_,_,_,_,_,_,_], []⟩) rfl rfl rfl rfl ?_
    refine W.op (v := .int .i64 ((i : Nat) : Int)) (fr1 := ⟨[_,_,_,_,_, .int .i64 ((i : Nat) : Int), _,_,_,_,_,_,_,_,_,_,_,_,_], []⟩) rfl rfl rfl rfl ?_
    refine EndsOps.nil ?_
    refine Ends.seq ?_
    refine Ends.region ?_
    refine W.op (v := .func (.func 84) ⟨[]⟩ ⟨[.pointer (some ⟨Nx, 0, none⟩)]⟩) (fr1 := ⟨[_,_,_,_,_,_,_,_,_,_,_, .func (.func 84) ⟨[]⟩ ⟨[.pointer (some ⟨Nx, 0, none⟩)]⟩, _,_,_,_,_,_,_], []⟩) rfl rfl rfl rfl ?_
    refine W.op (v := .slice al l.length cl) (fr1 := ⟨[_,_,_,_,_,_,_,_,_,_,_,_, .slice al l.length cl, _,_,_,_,_,_], []⟩) rfl rfl rfl rfl ?_
    refine W.op (v := .int .i64 ((i : Nat) : Int)) (fr1 := ⟨[_,_,_,_,_,_,_,_,_,_,_,_,_, .int .i64 ((i : Nat) : Int), _,_,_,_,_], []⟩) rfl rfl rfl rfl ?_
    obtain ⟨e5, he6⟩ := ex_at (l := l) (i := i) (by omega)
    refine W.op (v := .pointer (some ⟨Nl, ol + i * 3, none⟩)) (fr1 := ⟨[_,_,_,_,_,_,_,_,_,_,_,_,_,_, .pointer (some ⟨Nl, ol + i * 3, none⟩), _,_,_,_], []⟩) rfl (p_ix (Sl.ix Hl rfl rfl he6 _)) rfl rfl ?_
    refine W.op (v := .agg ⟨[.int .i64 e5.lo, .int .i64 e5.hi, .string e5.tx]⟩) (fr1 := ⟨[_,_,_,_,_,_,_,_,_,_,_,_,_,_,_, .agg ⟨[.int .i64 e5.lo, .int .i64 e5.hi, .string e5.tx]⟩, _,_,_], []⟩) rfl (p_loadA (Sl.row' (Hl.own hO2) he6) rfl rfl rfl rfl ((Hl.own hO2).get _ _ he6)) rfl rfl ?_
    by_cases h7 : SameX x e5
    · skip
      refine W.callC (ar := [.agg ⟨[.int .i64 e5.lo, .int .i64 e5.hi, .string e5.tx]⟩, .pointer (some ⟨Nx, 0, none⟩)]) (X := .bool true) (fr1 := ⟨[_,_,_,_,_,_,_,_,_,_,_,_,_,_,_,_, .bool true, _,_], []⟩) hO2 rfl rfl rfl rfl ((c84 e5 Nx zx x (hW _ (List.mem_of_getElem? he6)) _ (hr.own hO2)).mono fun v _ _ h => h.trans (congrArg Value.bool (decide_eq_true h7))) rfl ?_
      intro s8 hO9 hS10
      refine EndsOps.nil ?_
      refine Ends.condT rfl ?_
      refine Ends.seq ?_
      refine Ends.region ?_
      refine W.op (v := .int .i64 ((i : Nat) : Int)) (fr1 := ⟨[_,_,_,_,_,_,_,_,_,_,_,_,_,_,_,_,_, .int .i64 ((i : Nat) : Int), _], []⟩) rfl rfl rfl rfl ?_
      refine W.op (v := .int .i64 ((i : Nat) : Int)) (fr1 := ⟨[_,_,_,_, .int .i64 ((i : Nat) : Int), _,_,_,_,_,_,_,_,_,_,_,_,_,_], []⟩) rfl rfl rfl rfl ?_
      refine EndsOps.nil ?_
      refine Ends.ret ?_
      exact ⟨rfl, rfl, hO9, by
        show Value.int .i64 ((i : Nat) : Int) = .int .i64 (firstP (SameX x) l)
        exact congrArg (Value.int IntKind.i64) (firstP_at hn he6 h7).symm⟩
    · skip
      refine W.callC (ar := [.agg ⟨[.int .i64 e5.lo, .int .i64 e5.hi, .string e5.tx]⟩, .pointer (some ⟨Nx, 0, none⟩)]) (X := .bool false) (fr1 := ⟨[_,_,_,_,_,_,_,_,_,_,_,_,_,_,_,_, .bool false, _,_], []⟩) hO2 rfl rfl rfl rfl ((c84 e5 Nx zx x (hW _ (List.mem_of_getElem? he6)) _ (hr.own hO2)).mono fun v _ _ h => h.trans (congrArg Value.bool (decide_eq_false h7))) rfl ?_
      intro s11 hO12 hS13
      refine EndsOps.nil ?_
      refine Ends.condF rfl ?_
      refine Ends.skip ?_
      refine Ends.region ?_
      refine W.op (v := .int .i64 ((i + 1 : Nat) : Int)) (fr1 := ⟨[_,_,_,_,_,_,_,_,_,_,_,_,_,_,_,_,_,_, .int .i64 ((i + 1 : Nat) : Int)], []⟩) rfl (p_bin (addI (by omega) (by omega) (by omega))) rfl rfl ?_
      refine W.op (v := .int .i64 ((i + 1 : Nat) : Int)) (fr1 := ⟨[_,_,_,_,_,_,_,_, .int .i64 ((i + 1 : Nat) : Int), _,_,_,_,_,_,_,_,_,_], []⟩) rfl rfl rfl rfl ?_
      refine EndsOps.nil ?_
      exact ⟨_, (by omega), i + 1, _, _, _, _, _, _, _, _, _, _, _, _, rfl, hO12, rfl, by omega, NoB.step hn he6 h7⟩
  · skip
    refine W.op (v := .bool false) (fr1 := ⟨[_,_,_,_,_,_,_,_,_, .bool false, _,_,_,_,_,_,_,_,_], []⟩) rfl (p_bin (ltF h4)) rfl rfl ?_
    refine EndsOps.nil ?_
    refine Ends.seq ?_
    refine Ends.condF rfl ?_
    refine Ends.exit ?_
    refine W.outT rfl ?_
    refine Ends.seq ?_
    refine Ends.region ?_
    refine W.op (v := .int .i64 (-1)) (fr1 := ⟨[_,_,_,_, .int .i64 (-1), _,_,_,_,_,_,_,_,_,_,_,_,_,_], []⟩) rfl rfl rfl rfl ?_
    refine EndsOps.nil ?_
    refine Ends.ret ?_
    exact ⟨rfl, rfl, hO2, by
      show Value.int .i64 (-1) = .int .i64 (firstP (SameX x) l)
      exact congrArg (Value.int IntKind.i64) (firstP_none hn (by omega)).symm⟩

theorem c83n (aa : Option Addr) (l : List Ed) (ca : Nat) (s0 s : St) (hO0 : Own s0 s) (hl : OL Ed.cells 3 97 s0.next s.t s.next (.slice aa l.length ca) l)  : EndsOn R1.T 83 [.slice aa l.length ca, .func (.func 76) ⟨[]⟩ ⟨[]⟩] s0 s (fun v t n => ∃ a cap N vs e hi, v = .slice a (rmP Nothing l).length cap ∧ Sl Ed.cells 3 t n a (rmP Nothing l) N 0 vs e hi) := by
  refine EndsOn.of (rs := [4]) (fr0 := ⟨[.slice aa l.length ca, .func (.func 76) ⟨[]⟩ ⟨[]⟩, undef, undef, undef, undef, undef, undef, undef, undef, undef, undef, undef, undef, undef, undef, undef, undef, undef, undef, undef, undef, undef, undef, undef, undef, undef, undef, undef, undef, undef, undef, undef, undef, undef, undef, undef, undef, undef, undef, undef, undef], []⟩) (by kernel_rfl : R1.T.fn 83 = some ⟨42, (Try.f83.body).getD .skip, [.tmp 4]⟩) rfl hO0 ?_
  obtain ⟨_, N, vs, y0, z0, H, hlo, C⟩ := hl.slA (fun _ => rfl)
  have Ml := H.small
  simp only [Try.f83, Option.getD]
  refine Ends.seq ?_
  refine Ends.region ?_
  refine W.op (v := .slice none 0 0) (fr1 := ⟨[_,_,_,_, .slice none 0 0, _,_,_,_,_,_,_,_,_,_,_,_,_,_,_,_,_,_,_,_,_,_,_,_,_,_,_,_,_,_,_,_,_,_,_,_,_], []⟩) rfl rfl rfl rfl ?_
  refine EndsOps.nil ?_
  refine Ends.seq ?_
  refine Ends.region ?_
  refine W.op (v := .slice aa l.length ca) (fr1 := ⟨[_,_,_,_,_,_,_,_, .slice aa l.length ca, _,_,_,_,_,_,_,_,_,_,_,_,_,_,_,_,_,_,_,_,_,_,_,_,_,_,_,_,_,_,_,_,_], []⟩) rfl rfl rfl rfl ?_
  refine W.op (v := .func (.func 76) ⟨[]⟩ ⟨[]⟩) (fr1 := ⟨[_,_,_,_,_,_,_,_,_, .func (.func 76) ⟨[]⟩ ⟨[]⟩, _,_,_,_,_,_,_,_,_,_,_,_,_,_,_,_,_,_,_,_,_,_,_,_,_,_,_,_,_,_,_,_], []⟩) rfl rfl rfl rfl ?_
  by_cases h1 : firstP Nothing l = -1
  · skip
    refine W.call (ar := [.slice aa l.length ca, .func (.func 76) ⟨[]⟩ ⟨[]⟩]) (X := .int .i64 (-1)) (fr1 := ⟨[_,_,_,_,_,_,_,_,_,_, .int .i64 (-1), _,_,_,_,_,_,_,_,_,_,_,_,_,_,_,_,_,_,_,_,_,_,_,_,_,_,_,_,_,_,_], []⟩) hO0 rfl rfl rfl rfl ((c91n _ l _ _ _ _ _ _ _ (H.own (Own.refl s))).mono fun v _ _ g => g.trans (by rw [h1])) rfl ?_
    intro s2 hO3 hS4
    have nx5 : s.next ≤ s2.next := by have := hS4.next; omega
    have hE6 := (Own.refl s).trans hS4
    refine W.op (v := .int .i64 (-1)) (fr1 := ⟨[_,_,_,_,_, .int .i64 (-1), _,_,_,_,_,_,_,_,_,_,_,_,_,_,_,_,_,_,_,_,_,_,_,_,_,_,_,_,_,_,_,_,_,_,_,_], []⟩) rfl rfl rfl rfl ?_
    refine EndsOps.nil ?_
    refine Ends.seq ?_
    refine Ends.seq ?_
    refine Ends.region ?_
    refine W.op (v := .int .i64 (-1)) (fr1 := ⟨[_,_,_,_,_,_,_,_,_,_,_, .int .i64 (-1), _,_,_,_,_,_,_,_,_,_,_,_,_,_,_,_,_,_,_,_,_,_,_,_,_,_,_,_,_,_], []⟩) rfl rfl rfl rfl ?_
    refine W.op (v := .bool true) (fr1 := ⟨[_,_,_,_,_,_,_,_,_,_,_,_, .bool true, _,_,_,_,_,_,_,_,_,_,_,_,_,_,_,_,_,_,_,_,_,_,_,_,_,_,_,_,_], []⟩) rfl rfl rfl rfl ?_
    refine EndsOps.nil ?_
    refine Ends.condT rfl ?_
    refine Ends.seq ?_
    refine Ends.region ?_
    refine W.op (v := .slice aa l.length ca) (fr1 := ⟨[_,_,_,_,_,_,_,_,_,_,_,_,_, .slice aa l.length ca, _,_,_,_,_,_,_,_,_,_,_,_,_,_,_,_,_,_,_,_,_,_,_,_,_,_,_,_], []⟩) rfl rfl rfl rfl ?_
    refine W.op (v := .slice aa l.length ca) (fr1 := ⟨[_,_,_,_, .slice aa l.length ca, _,_,_,_,_,_,_,_,_,_,_,_,_,_,_,_,_,_,_,_,_,_,_,_,_,_,_,_,_,_,_,_,_,_,_,_,_], []⟩) rfl rfl rfl rfl ?_
    refine EndsOps.nil ?_
    refine Ends.ret ?_
    exact ⟨rfl, rfl, ⟨hO3, nx5⟩, (by have hF := (H.own hE6); have hA := rm_all h1; rw [← hA] at hF; exact ⟨aa, ca, _, _, _, _, by rw [hA]; rfl, hF⟩)⟩
  · skip
    obtain ⟨i0, e0, he0, hp0, hn0, hf0⟩ := firstP_ex h1
    have hi0 := (List.getElem?_eq_some_iff.1 he0).1
    refine W.call (ar := [.slice aa l.length ca, .func (.func 76) ⟨[]⟩ ⟨[]⟩]) (X := .int .i64 ((i0 : Nat) : Int)) (fr1 := ⟨[_,_,_,_,_,_,_,_,_,_, .int .i64 ((i0 : Nat) : Int), _,_,_,_,_,_,_,_,_,_,_,_,_,_,_,_,_,_,_,_,_,_,_,_,_,_,_,_,_,_,_], []⟩) hO0 rfl rfl rfl rfl ((c91n _ l _ _ _ _ _ _ _ (H.own (Own.refl s))).mono fun v _ _ g => g.trans (by rw [hf0])) rfl ?_
    intro s7 hO8 hS9
    have nx10 : s.next ≤ s7.next := by have := hS9.next; omega
    have hE11 := (Own.refl s).trans hS9
    refine W.op (v := .int .i64 ((i0 : Nat) : Int)) (fr1 := ⟨[_,_,_,_,_, .int .i64 ((i0 : Nat) : Int), _,_,_,_,_,_,_,_,_,_,_,_,_,_,_,_,_,_,_,_,_,_,_,_,_,_,_,_,_,_,_,_,_,_,_,_], []⟩) rfl rfl rfl rfl ?_
    refine EndsOps.nil ?_
    refine Ends.seq ?_
    refine Ends.seq ?_
    refine Ends.region ?_
    refine W.op (v := .int .i64 ((i0 : Nat) : Int)) (fr1 := ⟨[_,_,_,_,_,_,_,_,_,_,_, .int .i64 ((i0 : Nat) : Int), _,_,_,_,_,_,_,_,_,_,_,_,_,_,_,_,_,_,_,_,_,_,_,_,_,_,_,_,_,_], []⟩) rfl rfl rfl rfl ?_
    refine W.op (v := .bool false) (fr1 := ⟨[_,_,_,_,_,_,_,_,_,_,_,_, .bool false, _,_,_,_,_,_,_,_,_,_,_,_,_,_,_,_,_,_,_,_,_,_,_,_,_,_,_,_,_], []⟩) rfl (p_bin (eqF (by omega))) rfl rfl ?_
    refine EndsOps.nil ?_
    refine Ends.condF rfl ?_
    refine Ends.skip ?_
    refine Ends.seq ?_
    refine Ends.seq ?_
    refine Ends.region ?_
    refine W.op (v := .int .i64 ((i0 : Nat) : Int)) (fr1 := ⟨[_,_,_,_,_,_,_,_,_,_,_,_,_,_, .int .i64 ((i0 : Nat) : Int), _,_,_,_,_,_,_,_,_,_,_,_,_,_,_,_,_,_,_,_,_,_,_,_,_,_,_], []⟩) rfl rfl rfl rfl ?_
    refine W.op (v := .int .i64 ((i0 + 1 : Nat) : Int)) (fr1 := ⟨[_,_,_,_,_,_,_,_,_,_,_,_,_,_,_, .int .i64 ((i0 + 1 : Nat) : Int), _,_,_,_,_,_,_,_,_,_,_,_,_,_,_,_,_,_,_,_,_,_,_,_,_,_], []⟩) rfl (p_bin (addI (by omega) (by omega) (by omega))) rfl rfl ?_
    refine W.op (v := .int .i64 ((i0 + 1 : Nat) : Int)) (fr1 := ⟨[_,_,_,_,_,_, .int .i64 ((i0 + 1 : Nat) : Int), _,_,_,_,_,_,_,_,_,_,_,_,_,_,_,_,_,_,_,_,_,_,_,_,_,_,_,_,_,_,_,_,_,_,_], []⟩) rfl rfl rfl rfl ?_
    refine EndsOps.nil ?_
    refine W.block ?_
    refine Ends.loopJ (fun d jf12 fr s1 => ∃ (i : Nat) (j : Nat) (w : List Ed), fr = ⟨[.slice aa l.length ca, .func (.func 76) ⟨[]⟩ ⟨[]⟩, undef, undef, .slice none 0 0, .int .i64 ((i : Nat) : Int), .int .i64 ((j : Nat) : Int), (jf12 7), .slice aa l.length ca, .func (.func 76) ⟨[]⟩ ⟨[]⟩, .int .i64 ((i0 : Nat) : Int), .int .i64 ((i0 : Nat) : Int), .bool false, undef, .int .i64 ((i0 : Nat) : Int), .int .i64 ((i0 + 1 : Nat) : Int), (jf12 16), (jf12 17), (jf12 18), (jf12 19), (jf12 20), (jf12 21), (jf12 22), (jf12 23), (jf12 24), (jf12 25), (jf12 26), (jf12 27), (jf12 28), (jf12 29), (jf12 30), (jf12 31), (jf12 32), (jf12 33), (jf12 34), (jf12 35), undef, undef, undef, undef, undef, undef], []⟩ ∧ Own s0 s1 ∧ d = l.length - j ∧ (OL Ed.cells 3 97 s0.next s1.t s1.next (.slice aa l.length ca) w) ∧ (w.take i = rmP Nothing (l.take j)) ∧ (∀ k, j ≤ k → w[k]? = l[k]?) ∧ (w.length = l.length) ∧ (i < j) ∧ (j ≤ l.length) ∧ (s.next ≤ s1.next)) ?_ _ _ _ ⟨i0, i0 + 1, l, (by kernel_rfl), hO8, rfl, (hl.own hE11), (by rw [rm_T he0 hp0, rm_no hn0]), fun k hk => rfl, rfl, Nat.lt_succ_self _, hi0, nx10⟩
    rintro d jf12 _ s13 ⟨i, j, w, rfl, hO14, hd15, hw, hw1, hw2, hwl, hij, hj, hnx⟩
    obtain ⟨_, N2, vs2, y2, z2, H2, hlo2, C2⟩ := hw.slA (fun _ => rfl)
    refine Ends.seq ?_
    refine Ends.seq ?_
    refine Ends.region ?_
    refine W.op (v := .int .i64 ((j : Nat) : Int)) (fr1 := ⟨[_,_,_,_,_,_,_,_,_,_,_,_,_,_,_,_, .int .i64 ((j : Nat) : Int), _,_,_,_,_,_,_,_,_,_,_,_,_,_,_,_,_,_,_,_,_,_,_,_,_], []⟩) rfl rfl rfl rfl ?_
    refine W.op (v := .slice aa l.length ca) (fr1 := ⟨[_,_,_,_,_,_,_,_,_,_,_,_,_,_,_,_,_, .slice aa l.length ca, _,_,_,_,_,_,_,_,_,_,_,_,_,_,_,_,_,_,_,_,_,_,_,_], []⟩) rfl rfl rfl rfl ?_
    refine W.op (v := .int .i64 ((l.length : Nat) : Int)) (fr1 := ⟨[_,_,_,_,_,_,_,_,_,_,_,_,_,_,_,_,_,_, .int .i64 ((l.length : Nat) : Int), _,_,_,_,_,_,_,_,_,_,_,_,_,_,_,_,_,_,_,_,_,_,_], []⟩) rfl rfl rfl rfl ?_
    by_cases h16 : ((j : Nat) : Int) < ((l.length : Nat) : Int)
    · skip
      refine W.op (v := .bool true) (fr1 := ⟨[_,_,_,_,_,_,_,_,_,_,_,_,_,_,_,_,_,_,_, .bool true, _,_,_,_,_,_,_,_,_,_,_,_,_,_,_,_,_,_,_,_,_,_], []⟩) rfl (p_bin (ltT h16)) rfl rfl ?_
      refine EndsOps.nil ?_
      refine Ends.condT rfl ?_
      refine Ends.skip ?_
      refine Ends.seq ?_
      refine W.block ?_
      refine Ends.seq ?_
      refine Ends.region ?_
      refine W.op (v := .slice aa l.length ca) (fr1 := ⟨[_,_,_,_,_,_,_,_,_,_,_,_,_,_,_,_,_,_,_,_,_,_, .slice aa l.length ca, _,_,_,_,_,_,_,_,_,_,_,_,_,_,_,_,_,_,_], []⟩) rfl rfl rfl rfl ?_
      refine W.op (v := .int .i64 ((j : Nat) : Int)) (fr1 := ⟨[_,_,_,_,_,_,_,_,_,_,_,_,_,_,_,_,_,_,_,_,_,_,_, .int .i64 ((j : Nat) : Int), _,_,_,_,_,_,_,_,_,_,_,_,_,_,_,_,_,_], []⟩) rfl rfl rfl rfl ?_
      obtain ⟨e17, he18⟩ := ex_at (l := w) (i := j) (by omega)
      refine W.op (v := .pointer (some ⟨N2, 0 + j * 3, none⟩)) (fr1 := ⟨[_,_,_,_,_,_,_,_,_,_,_,_,_,_,_,_,_,_,_,_,_,_,_,_, .pointer (some ⟨N2, 0 + j * 3, none⟩), _,_,_,_,_,_,_,_,_,_,_,_,_,_,_,_,_], []⟩) rfl (p_ix (Sl.ixL hwl H2 rfl rfl he18 _)) rfl rfl ?_
      refine W.op (v := .agg ⟨[.int .i64 e17.lo, .int .i64 e17.hi, .string e17.tx]⟩) (fr1 := ⟨[_,_,_,_,_,_,_,_,_,_,_,_,_,_,_,_,_,_,_,_,_,_,_,_,_, .agg ⟨[.int .i64 e17.lo, .int .i64 e17.hi, .string e17.tx]⟩, _,_,_,_,_,_,_,_,_,_,_,_,_,_,_,_], []⟩) rfl (p_loadA (Sl.row' (H2.own (Own.refl s13)) he18) rfl rfl rfl rfl ((H2.own (Own.refl s13)).get _ _ he18)) rfl rfl ?_
      obtain ⟨N19, hN20⟩ : ∃ N, N = s13.next := ⟨_, rfl⟩
      have hnl21 := fun hl => Nat.ne_of_lt (hN20 ▸ (H2.row hl).lt)
      have hb22 : s13.next ≤ N19 := hN20 ▸ (Own.refl s13).next
      refine W.new (N := N19) (vs := [.int .i64 0, .int .i64 0, .string ByteArray.empty]) (fr1 := ⟨[_,_,_,_,_,_,_, .pointer (some ⟨N19, 0, none⟩), _,_,_,_,_,_,_,_,_,_,_,_,_,_,_,_,_,_,_,_,_,_,_,_,_,_,_,_,_,_,_,_,_,_], []⟩) hO14 hN20 rfl (p_alloc zero97 rfl) rfl rfl ?_
      intro s23 hO24 hS25 r26 hB27
      have nx28 : s.next ≤ s23.next := by have := hS25.next; omega
      have hE29 := (Own.refl s13).trans hS25
      refine W.store2 (cs := [.int .i64 e17.lo, .int .i64 e17.hi, .string e17.tx]) (vs' := [.int .i64 e17.lo, .int .i64 e17.hi, .string e17.tx]) (fr1 := ⟨[_,_,_,_,_,_,_,_,_,_,_,_,_,_,_,_,_,_,_,_,_,_,_,_,_,_,_,_,_,_,_,_,_,_,_,_,_,_,_,_,_,_], []⟩) hO24 r26 hB27 rfl rfl rfl rfl (by kernel_rfl) (by simp) (by simp [END, oneCell]) rfl rfl ?_
      intro s30 hO31 hn32 hu33 r34 hX35
      have nx36 : s.next ≤ s30.next := by have := hn32; omega
      have hE37 := hX35 s13 hE29 hb22
      refine EndsOps.nil ?_
      refine Ends.seq ?_
      refine Ends.region ?_
      refine W.op (v := .func (.func 76) ⟨[]⟩ ⟨[]⟩) (fr1 := ⟨[_,_,_,_,_,_,_,_,_,_,_,_,_,_,_,_,_,_,_,_,_,_,_,_,_,_, .func (.func 76) ⟨[]⟩ ⟨[]⟩, _,_,_,_,_,_,_,_,_,_,_,_,_,_,_], []⟩) rfl rfl rfl rfl ?_
      refine W.op (v := .agg ⟨[.int .i64 e17.lo, .int .i64 e17.hi, .string e17.tx]⟩) (fr1 := ⟨[_,_,_,_,_,_,_,_,_,_,_,_,_,_,_,_,_,_,_,_,_,_,_,_,_,_,_, .agg ⟨[.int .i64 e17.lo, .int .i64 e17.hi, .string e17.tx]⟩, _,_,_,_,_,_,_,_,_,_,_,_,_,_], []⟩) rfl (p_loadA r34 rfl rfl rfl rfl rfl) rfl rfl ?_
      by_cases h38 : Nothing e17
      · skip
        refine W.call (ar := [.agg ⟨[.int .i64 e17.lo, .int .i64 e17.hi, .string e17.tx]⟩]) (X := .bool true) (fr1 := ⟨[_,_,_,_,_,_,_,_,_,_,_,_,_,_,_,_,_,_,_,_,_,_,_,_,_,_,_,_, .bool true, _,_,_,_,_,_,_,_,_,_,_,_,_], []⟩) hO31 rfl rfl rfl rfl ((c76 e17 _).mono fun v _ _ h => h.trans (congrArg Value.bool (decide_eq_true h38))) rfl ?_
        intro s39 hO40 hS41
        have nx42 : s.next ≤ s39.next := by have := hS41.next; omega
        have hE43 := hE37.trans hS41
        have r44 := r34.own hS41
        refine W.op (v := .bool false) (fr1 := ⟨[_,_,_,_,_,_,_,_,_,_,_,_,_,_,_,_,_,_,_,_,_,_,_,_,_,_,_,_,_, .bool false, _,_,_,_,_,_,_,_,_,_,_,_], []⟩) rfl rfl rfl rfl ?_
        refine EndsOps.nil ?_
        refine Ends.condF rfl ?_
        refine Ends.skip ?_
        refine Ends.region ?_
        refine W.op (v := .int .i64 ((j : Nat) : Int)) (fr1 := ⟨[_,_,_,_,_,_,_,_,_,_,_,_,_,_,_,_,_,_,_,_, .int .i64 ((j : Nat) : Int), _,_,_,_,_,_,_,_,_,_,_,_,_,_,_,_,_,_,_,_,_], []⟩) rfl rfl rfl rfl ?_
        refine W.op (v := .int .i64 ((j + 1 : Nat) : Int)) (fr1 := ⟨[_,_,_,_,_,_,_,_,_,_,_,_,_,_,_,_,_,_,_,_,_, .int .i64 ((j + 1 : Nat) : Int), _,_,_,_,_,_,_,_,_,_,_,_,_,_,_,_,_,_,_,_], []⟩) rfl (p_bin (addI (by omega) (by omega) (by omega))) rfl rfl ?_
        refine W.op (v := .int .i64 ((j + 1 : Nat) : Int)) (fr1 := ⟨[_,_,_,_,_,_, .int .i64 ((j + 1 : Nat) : Int), _,_,_,_,_,_,_,_,_,_,_,_,_,_,_,_,_,_,_,_,_,_,_,_,_,_,_,_,_,_,_,_,_,_,_], []⟩) rfl rfl rfl rfl ?_
        refine EndsOps.nil ?_
        exact ⟨_, (by omega), i, j + 1, w, (by kernel_rfl), hO40, rfl, (hw.own hE43), (by rw [rm_T ((hw2 j (Nat.le_refl _)).symm.trans he18) h38]; exact hw1), (fun k hk => hw2 k (by omega)), hwl, by omega, by omega, nx42⟩
      · skip
        refine W.call (ar := [.agg ⟨[.int .i64 e17.lo, .int .i64 e17.hi, .string e17.tx]⟩]) (X := .bool false) (fr1 := ⟨[_,_,_,_,_,_,_,_,_,_,_,_,_,_,_,_,_,_,_,_,_,_,_,_,_,_,_,_, .bool false, _,_,_,_,_,_,_,_,_,_,_,_,_], []⟩) hO31 rfl rfl rfl rfl ((c76 e17 _).mono fun v _ _ h => h.trans (congrArg Value.bool (decide_eq_false h38))) rfl ?_
        intro s45 hO46 hS47
        have nx48 : s.next ≤ s45.next := by have := hS47.next; omega
        have hE49 := hE37.trans hS47
        have r50 := r34.own hS47
        refine W.op (v := .bool true) (fr1 := ⟨[_,_,_,_,_,_,_,_,_,_,_,_,_,_,_,_,_,_,_,_,_,_,_,_,_,_,_,_,_, .bool true, _,_,_,_,_,_,_,_,_,_,_,_], []⟩) rfl rfl rfl rfl ?_
        refine EndsOps.nil ?_
        refine Ends.condT rfl ?_
        refine Ends.seq ?_
        refine Ends.region ?_
        refine W.op (v := .slice aa l.length ca) (fr1 := ⟨[_,_,_,_,_,_,_,_,_,_,_,_,_,_,_,_,_,_,_,_,_,_,_,_,_,_,_,_,_,_, .slice aa l.length ca, _,_,_,_,_,_,_,_,_,_,_], []⟩) rfl rfl rfl rfl ?_
        refine W.op (v := .int .i64 ((i : Nat) : Int)) (fr1 := ⟨[_,_,_,_,_,_,_,_,_,_,_,_,_,_,_,_,_,_,_,_,_,_,_,_,_,_,_,_,_,_,_, .int .i64 ((i : Nat) : Int), _,_,_,_,_,_,_,_,_,_], []⟩) rfl rfl rfl rfl ?_
        refine W.op (v := .agg ⟨[.int .i64 e17.lo, .int .i64 e17.hi, .string e17.tx]⟩) (fr1 := ⟨[_,_,_,_,_,_,_,_,_,_,_,_,_,_,_,_,_,_,_,_,_,_,_,_,_,_,_,_,_,_,_,_, .agg ⟨[.int .i64 e17.lo, .int .i64 e17.hi, .string e17.tx]⟩, _,_,_,_,_,_,_,_,_], []⟩) rfl (p_loadA r50 rfl rfl rfl rfl rfl) rfl rfl ?_
        obtain ⟨e51, he52⟩ := ex_at (l := w) (i := i) (by omega)
        refine W.op (v := .pointer (some ⟨N2, 0 + i * 3, none⟩)) (fr1 := ⟨[_,_,_,_,_,_,_,_,_,_,_,_,_,_,_,_,_,_,_,_,_,_,_,_,_,_,_,_,_,_,_,_,_, .pointer (some ⟨N2, 0 + i * 3, none⟩), _,_,_,_,_,_,_,_], []⟩) rfl (p_ix (Sl.ixL hwl H2 rfl rfl he52 _)) rfl rfl ?_
        have hc58 := ne_nil_at he52
        obtain ⟨r53, lo54, hh55, ha56, hb57⟩ := OL.at (m := 3) (of := 0) (hw.own hE49) (H2.own hE49) (fun _ => rfl) he52 rfl (by decide)
        obtain ⟨y59, hy60⟩ : ∃ z0 : Ed, z0 = ⟨e17.lo, e17.hi, e17.tx⟩ := ⟨_, rfl⟩
        refine W.store2 (cs := [.int .i64 e17.lo, .int .i64 e17.hi, .string e17.tx]) (fr1 := ⟨[_,_,_,_,_,_,_,_,_,_,_,_,_,_,_,_,_,_,_,_,_,_,_,_,_,_,_,_,_,_,_,_,_,_,_,_,_,_,_,_,_,_], []⟩) hO46 r53 lo54 rfl rfl rfl rfl (by kernel_rfl) (by simp) ⟨hh55, ha56, hb57, rfl⟩ rfl rfl ?_
        intro s61 hO62 hn63 hu64 r65 hX66
        obtain ⟨hol67, H68, hel69⟩ := OL.set (of := 0) (y' := y59) (hw.own hE49) (H2.own hE49) (fun _ => rfl) he52 rfl (by simp) (by rw [hy60]; rfl) r65
        have nx70 : s.next ≤ s61.next := by have := hn63; omega
        have r71 := r50.upd hn63 hu64 (Ne.symm (hnl21 hc58))
        refine EndsOps.nil ?_
        refine Ends.region ?_
        refine W.op (v := .int .i64 ((i : Nat) : Int)) (fr1 := ⟨[_,_,_,_,_,_,_,_,_,_,_,_,_,_,_,_,_,_,_,_,_,_,_,_,_,_,_,_,_,_,_,_,_,_, .int .i64 ((i : Nat) : Int), _,_,_,_,_,_,_], []⟩) rfl rfl rfl rfl ?_
        refine W.op (v := .int .i64 ((i + 1 : Nat) : Int)) (fr1 := ⟨[_,_,_,_,_,_,_,_,_,_,_,_,_,_,_,_,_,_,_,_,_,_,_,_,_,_,_,_,_,_,_,_,_,_,_, .int .i64 ((i + 1 : Nat) : Int), _,_,_,_,_,_], []⟩) rfl (p_bin (addI (by omega) (by omega) (by omega))) rfl rfl ?_
        refine W.op (v := .int .i64 ((i + 1 : Nat) : Int)) (fr1 := ⟨[_,_,_,_,_, .int .i64 ((i + 1 : Nat) : Int), _,_,_,_,_,_,_,_,_,_,_,_,_,_,_,_,_,_,_,_,_,_,_,_,_,_,_,_,_,_,_,_,_,_,_,_], []⟩) rfl rfl rfl rfl ?_
        refine EndsOps.nil ?_
        refine Ends.region ?_
        refine W.op (v := .int .i64 ((j : Nat) : Int)) (fr1 := ⟨[_,_,_,_,_,_,_,_,_,_,_,_,_,_,_,_,_,_,_,_, .int .i64 ((j : Nat) : Int), _,_,_,_,_,_,_,_,_,_,_,_,_,_,_,_,_,_,_,_,_], []⟩) rfl rfl rfl rfl ?_
        refine W.op (v := .int .i64 ((j + 1 : Nat) : Int)) (fr1 := ⟨[_,_,_,_,_,_,_,_,_,_,_,_,_,_,_,_,_,_,_,_,_, .int .i64 ((j + 1 : Nat) : Int), _,_,_,_,_,_,_,_,_,_,_,_,_,_,_,_,_,_,_,_], []⟩) rfl (p_bin (addI (by omega) (by omega) (by omega))) rfl rfl ?_
        refine W.op (v := .int .i64 ((j + 1 : Nat) : Int)) (fr1 := ⟨[_,_,_,_,_,_, .int .i64 ((j + 1 : Nat) : Int), _,_,_,_,_,_,_,_,_,_,_,_,_,_,_,_,_,_,_,_,_,_,_,_,_,_,_,_,_,_,_,_,_,_,_], []⟩) rfl rfl rfl rfl ?_
        refine EndsOps.nil ?_
        exact ⟨_, (by omega), i + 1, j + 1, (w.set i y59), (by kernel_rfl), hO62, rfl, hol67, (by rw [rm_F ((hw2 j (Nat.le_refl _)).symm.trans he18) h38, set_take _ _ (by omega), hw1, hy60]), (fun k hk => by rw [List.getElem?_set_ne (by omega)]; exact hw2 k (by omega)), (by rw [List.length_set]; exact hwl), by omega, by omega, nx70⟩
    · skip
      refine W.op (v := .bool false) (fr1 := ⟨[_,_,_,_,_,_,_,_,_,_,_,_,_,_,_,_,_,_,_, .bool false, _,_,_,_,_,_,_,_,_,_,_,_,_,_,_,_,_,_,_,_,_,_], []⟩) rfl (p_bin (ltF h16)) rfl rfl ?_
      refine EndsOps.nil ?_
      refine Ends.condF rfl ?_
      refine Ends.exit ?_
      refine W.outT rfl ?_
      refine Ends.seq ?_
      refine Ends.region ?_
      refine W.op (v := .slice aa l.length ca) (fr1 := ⟨[_,_,_,_,_,_,_,_,_,_,_,_,_,_,_,_,_,_,_,_,_,_,_,_,_,_,_,_,_,_,_,_,_,_,_,_, .slice aa l.length ca, _,_,_,_,_], []⟩) rfl rfl rfl rfl ?_
      refine W.op (v := .int .i64 ((i : Nat) : Int)) (fr1 := ⟨[_,_,_,_,_,_,_,_,_,_,_,_,_,_,_,_,_,_,_,_,_,_,_,_,_,_,_,_,_,_,_,_,_,_,_,_,_, .int .i64 ((i : Nat) : Int), _,_,_,_], []⟩) rfl rfl rfl rfl ?_
      have hnw : w ≠ [] := by intro h0; rw [h0] at hwl; simp at hwl; omega
      have hOW := hw
      have hSW := H2
      obtain ⟨haw, _, hcw, _, _, _, _, _⟩ := hOW.opened hSW hnw
      refine W.op (v := .slice (some ⟨N2, i * 3, none⟩) (l.length - i) (END + 3)) (fr1 := ⟨[_,_,_,_,_,_,_,_,_,_,_,_,_,_,_,_,_,_,_,_,_,_,_,_,_,_,_,_,_,_,_,_,_,_,_,_,_,_, .slice (some ⟨N2, i * 3, none⟩) (l.length - i) (END + 3), _,_,_], []⟩) rfl (p_dropOL rfl haw hcw rfl rfl rfl (by omega)) rfl rfl ?_
      refine W.clearE (m := i) (fr1 := ⟨[_,_,_,_,_,_,_,_,_,_,_,_,_,_,_,_,_,_,_,_,_,_,_,_,_,_,_,_,_,_,_,_,_,_,_,_,_,_,_,_,_,_], []⟩) hO14 hOW hSW (fun _ => rfl) rfl rfl rfl (by omega) (by omega) (by decide) (by kernel_rfl) zero97 (by kernel_rfl) rfl rfl rfl ?_
      intro s72 vs73 hO74 hn75 H76
      have nx77 : s.next ≤ s72.next := by have := hn75; omega
      refine EndsOps.nil ?_
      refine Ends.seq ?_
      refine Ends.region ?_
      refine W.op (v := .slice aa l.length ca) (fr1 := ⟨[_,_,_,_,_,_,_,_,_,_,_,_,_,_,_,_,_,_,_,_,_,_,_,_,_,_,_,_,_,_,_,_,_,_,_,_,_,_,_, .slice aa l.length ca, _,_], []⟩) rfl rfl rfl rfl ?_
      refine W.op (v := .int .i64 ((i : Nat) : Int)) (fr1 := ⟨[_,_,_,_,_,_,_,_,_,_,_,_,_,_,_,_,_,_,_,_,_,_,_,_,_,_,_,_,_,_,_,_,_,_,_,_,_,_,_,_, .int .i64 ((i : Nat) : Int), _], []⟩) rfl rfl rfl rfl ?_
      refine W.op (v := .slice aa i ca) (fr1 := ⟨[_,_,_,_,_,_,_,_,_,_,_,_,_,_,_,_,_,_,_,_,_,_,_,_,_,_,_,_,_,_,_,_,_,_,_,_,_,_,_,_,_, .slice aa i ca], []⟩) rfl (p_sliceTo (el := 97) rfl rfl rfl rfl C2 (by omega)) rfl rfl ?_
      refine W.op (v := .slice aa i ca) (fr1 := ⟨[_,_,_,_, .slice aa i ca, _,_,_,_,_,_,_,_,_,_,_,_,_,_,_,_,_,_,_,_,_,_,_,_,_,_,_,_,_,_,_,_,_,_,_,_,_], []⟩) rfl rfl rfl rfl ?_
      refine EndsOps.nil ?_
      refine Ends.ret ?_
      exact ⟨rfl, rfl, ⟨hO74, nx77⟩, (by have hfin : w.take i = rmP Nothing l := (by rw [hw1, show j = l.length by omega, List.take_length]); have hln : (rmP Nothing l).length = i := (by rw [← hfin, List.length_take, Nat.min_eq_left (by omega)]); have hF := H76; rw [hfin] at hF; exact ⟨aa, ca, _, _, _, _, by rw [hln]; rfl, hF⟩)⟩

theorem c83w (Nx zx : Nat) (x : ByteArray) (aa : Option Addr) (l : List Ed) (ca : Nat) (s0 s : St) (hO0 : Own s0 s) (hl : OL Ed.cells 3 97 s0.next s.t s.next (.slice aa l.length ca) l) (hr : Row s.t s.next Nx [.string x] 9 zx) (hW : ∀ e ∈ l, Within e (((B x).length : Nat) : Int))  : EndsOn R1.T 83 [.slice aa l.length ca, .func (.func 84) ⟨[]⟩ ⟨[.pointer (some ⟨Nx, 0, none⟩)]⟩] s0 s (fun v t n => ∃ a cap N vs e hi, v = .slice a (rmP (SameX x) l).length cap ∧ Sl Ed.cells 3 t n a (rmP (SameX x) l) N 0 vs e hi) := by
  refine EndsOn.of (rs := [4]) (fr0 := ⟨[.slice aa l.length ca, .func (.func 84) ⟨[]⟩ ⟨[.pointer (some ⟨Nx, 0, none⟩)]⟩, undef, undef, undef, undef, undef, undef, undef, undef, undef, undef, undef, undef, undef, undef, undef, undef, undef, undef, undef, undef, undef, undef, undef, undef, undef, undef, undef, undef, undef, undef, undef, undef, undef, undef, undef, undef, undef, undef, undef, undef], []⟩) (by kernel_rfl : R1.T.fn 83 = some ⟨42, (Try.f83.body).getD .skip, [.tmp 4]⟩) rfl hO0 ?_
  obtain ⟨_, N, vs, y0, z0, H, hlo, C⟩ := hl.slA (fun _ => rfl)
  have Ml := H.small
  simp only [Try.f83, Option.getD]
  refine Ends.seq ?_
  refine Ends.region ?_
  refine W.op (v := .slice none 0 0) (fr1 := ⟨[_,_,_,_, .slice none 0 0, _,_,_,_,_,_,_,_,_,_,_,_,_,_,_,_,_,_,_,_,_,_,_,_,_,_,_,_,_,_,_,_,_,_,_,_,_], []⟩) rfl rfl rfl rfl ?_
  refine EndsOps.nil ?_
  refine Ends.seq ?_
  refine Ends.region ?_
  refine W.op (v := .slice aa l.length ca) (fr1 := ⟨[_,_,_,_,_,_,_,_, .slice aa l.length ca, _,_,_,_,_,_,_,_,_,_,_,_,_,_,_,_,_,_,_,_,_,_,_,_,_,_,_,_,_,_,_,_,_], []⟩) rfl rfl rfl rfl ?_
  refine W.op (v := .func (.func 84) ⟨[]⟩ ⟨[.pointer (some ⟨Nx, 0, none⟩)]⟩) (fr1 := ⟨[_,_,_,_,_,_,_,_,_, .func (.func 84) ⟨[]⟩ ⟨[.pointer (some ⟨Nx, 0, none⟩)]⟩, _,_,_,_,_,_,_,_,_,_,_,_,_,_,_,_,_,_,_,_,_,_,_,_,_,_,_,_,_,_,_,_], []⟩) rfl rfl rfl rfl ?_
  by_cases h1 : firstP (SameX x) l = -1
  · skip
    refine W.call (ar := [.slice aa l.length ca, .func (.func 84) ⟨[]⟩ ⟨[.pointer (some ⟨Nx, 0, none⟩)]⟩]) (X := .int .i64 (-1)) (fr1 := ⟨[_,_,_,_,_,_,_,_,_,_, .int .i64 (-1), _,_,_,_,_,_,_,_,_,_,_,_,_,_,_,_,_,_,_,_,_,_,_,_,_,_,_,_,_,_,_], []⟩) hO0 rfl rfl rfl rfl ((c91w Nx zx x _ l _ _ _ _ _ _ _ (H.own (Own.refl s)) hr hW).mono fun v _ _ g => g.trans (by rw [h1])) rfl ?_
    intro s2 hO3 hS4
    have nx5 : s.next ≤ s2.next := by have := hS4.next; omega
    have hE6 := (Own.refl s).trans hS4
    have r7 := hr.own hS4
    refine W.op (v := .int .i64 (-1)) (fr1 := ⟨[_,_,_,_,_, .int .i64 (-1), _,_,_,_,_,_,_,_,_,_,_,_,_,_,_,_,_,_,_,_,_,_,_,_,_,_,_,_,_,_,_,_,_,_,_,_], []⟩) rfl rfl rfl rfl ?_
    refine EndsOps.nil ?_
    refine Ends.seq ?_
    refine Ends.seq ?_
    refine Ends.region ?_
    refine W.op (v := .int .i64 (-1)) (fr1 := ⟨[_,_,_,_,_,_,_,_,_,_,_, .int .i64 (-1), _,_,_,_,_,_,_,_,_,_,_,_,_,_,_,_,_,_,_,_,_,_,_,_,_,_,_,_,_,_], []⟩) rfl rfl rfl rfl ?_
    refine W.op (v := .bool true) (fr1 := ⟨[_,_,_,_,_,_,_,_,_,_,_,_, .bool true, _,_,_,_,_,_,_,_,_,_,_,_,_,_,_,_,_,_,_,_,_,_,_,_,_,_,_,_,_], []⟩) rfl rfl rfl rfl ?_
    refine EndsOps.nil ?_
    refine Ends.condT rfl ?_
    refine Ends.seq ?_
    refine Ends.region ?_
    refine W.op (v := .slice aa l.length ca) (fr1 := ⟨[_,_,_,_,_,_,_,_,_,_,_,_,_, .slice aa l.length ca, _,_,_,_,_,_,_,_,_,_,_,_,_,_,_,_,_,_,_,_,_,_,_,_,_,_,_,_], []⟩) rfl rfl rfl rfl ?_
    refine W.op (v := .slice aa l.length ca) (fr1 := ⟨[_,_,_,_, .slice aa l.length ca, _,_,_,_,_,_,_,_,_,_,_,_,_,_,_,_,_,_,_,_,_,_,_,_,_,_,_,_,_,_,_,_,_,_,_,_,_], []⟩) rfl rfl rfl rfl ?_
    refine EndsOps.nil ?_
    refine Ends.ret ?_
    exact ⟨rfl, rfl, ⟨hO3, nx5⟩, (by have hF := (H.own hE6); have hA := rm_all h1; rw [← hA] at hF; exact ⟨aa, ca, _, _, _, _, by rw [hA]; rfl, hF⟩)⟩
  · skip
    obtain ⟨i0, e0, he0, hp0, hn0, hf0⟩ := firstP_ex h1
    have hi0 := (List.getElem?_eq_some_iff.1 he0).1
    refine W.call (ar := [.slice aa l.length ca, .func (.func 84) ⟨[]⟩ ⟨[.pointer (some ⟨Nx, 0, none⟩)]⟩]) (X := .int .i64 ((i0 : Nat) : Int)) (fr1 := ⟨[_,_,_,_,_,_,_,_,_,_, .int .i64 ((i0 : Nat) : Int), _,_,_,_,_,_,_,_,_,_,_,_,_,_,_,_,_,_,_,_,_,_,_,_,_,_,_,_,_,_,_], []⟩) hO0 rfl rfl rfl rfl ((c91w Nx zx x _ l _ _ _ _ _ _ _ (H.own (Own.refl s)) hr hW).mono fun v _ _ g => g.trans (by rw [hf0])) rfl ?_
    intro s8 hO9 hS10
    have nx11 : s.next ≤ s8.next := by have := hS10.next; omega
    have hE12 := (Own.refl s).trans hS10
    have r13 := hr.own hS10
    refine W.op (v := .int .i64 ((i0 : Nat) : Int)) (fr1 := ⟨[_,_,_,_,_, .int .i64 ((i0 : Nat) : Int), _,_,_,_,_,_,_,_,_,_,_,_,_,_,_,_,_,_,_,_,_,_,_,_,_,_,_,_,_,_,_,_,_,_,_,_], []⟩) rfl rfl rfl rfl ?_
    refine EndsOps.nil ?_
    refine Ends.seq ?_
    refine Ends.seq ?_
    refine Ends.region ?_
    refine W.op (v := .int .i64 ((i0 : Nat) : Int)) (fr1 := ⟨[_,_,_,_,_,_,_,_,_,_,_, .int .i64 ((i0 : Nat) : Int), _,_,_,_,_,_,_,_,_,_,_,_,_,_,_,_,_,_,_,_,_,_,_,_,_,_,_,_,_,_], []⟩) rfl rfl rfl rfl ?_
    refine W.op (v := .bool false) (fr1 := ⟨[_,_,_,_,_,_,_,_,_,_,_,_, .bool false, _,_,_,_,_,_,_,_,_,_,_,_,_,_,_,_,_,_,_,_,_,_,_,_,_,_,_,_,_], []⟩) rfl (p_bin (eqF (by omega))) rfl rfl ?_
    refine EndsOps.nil ?_
    refine Ends.condF rfl ?_
    refine Ends.skip ?_
    refine Ends.seq ?_
    refine Ends.seq ?_
    refine Ends.region ?_
    refine W.op (v := .int .i64 ((i0 : Nat) : Int)) (fr1 := ⟨[_,_,_,_,_,_,_,_,_,_,_,_,_,_, .int .i64 ((i0 : Nat) : Int), _,_,_,_,_,_,_,_,_,_,_,_,_,_,_,_,_,_,_,_,_,_,_,_,_,_,_], []⟩) rfl rfl rfl rfl ?_
    refine W.op (v := .int .i64 ((i0 + 1 : Nat) : Int)) (fr1 := ⟨[_,_,_,_,_,_,_,_,_,_,_,_,_,_,_, .int .i64 ((i0 + 1 : Nat) : Int), _,_,_,_,_,_,_,_,_,_,_,_,_,_,_,_,_,_,_,_,_,_,_,_,_,_], []⟩) rfl (p_bin (addI (by omega) (by omega) (by omega))) rfl rfl ?_
    refine W.op (v := .int .i64 ((i0 + 1 : Nat) : Int)) (fr1 := ⟨[_,_,_,_,_,_, .int .i64 ((i0 + 1 : Nat) : Int), _,_,_,_,_,_,_,_,_,_,_,_,_,_,_,_,_,_,_,_,_,_,_,_,_,_,_,_,_,_,_,_,_,_,_], []⟩) rfl rfl rfl rfl ?_
    refine EndsOps.nil ?_
    refine W.block ?_
    refine Ends.loopJ (fun d jf14 fr s1 => ∃ (i : Nat) (j : Nat) (w : List Ed), fr = ⟨[.slice aa l.length ca, .func (.func 84) ⟨[]⟩ ⟨[.pointer (some ⟨Nx, 0, none⟩)]⟩, undef, undef, .slice none 0 0, .int .i64 ((i : Nat) : Int), .int .i64 ((j : Nat) : Int), (jf14 7), .slice aa l.length ca, .func (.func 84) ⟨[]⟩ ⟨[.pointer (some ⟨Nx, 0, none⟩)]⟩, .int .i64 ((i0 : Nat) : Int), .int .i64 ((i0 : Nat) : Int), .bool false, undef, .int .i64 ((i0 : Nat) : Int), .int .i64 ((i0 + 1 : Nat) : Int), (jf14 16), (jf14 17), (jf14 18), (jf14 19), (jf14 20), (jf14 21), (jf14 22), (jf14 23), (jf14 24), (jf14 25), (jf14 26), (jf14 27), (jf14 28), (jf14 29), (jf14 30), (jf14 31), (jf14 32), (jf14 33), (jf14 34), (jf14 35), undef, undef, undef, undef, undef, undef], []⟩ ∧ Own s0 s1 ∧ d = l.length - j ∧ (OL Ed.cells 3 97 s0.next s1.t s1.next (.slice aa l.length ca) w) ∧ (w.take i = rmP (SameX x) (l.take j)) ∧ (∀ k, j ≤ k → w[k]? = l[k]?) ∧ (w.length = l.length) ∧ (i < j) ∧ (j ≤ l.length) ∧ (s.next ≤ s1.next) ∧ (Row s1.t s1.next Nx [.string x] 9 zx)) ?_ _ _ _ ⟨i0, i0 + 1, l, (by kernel_rfl), hO9, rfl, (hl.own hE12), (by rw [rm_T he0 hp0, rm_no hn0]), fun k hk => rfl, rfl, Nat.lt_succ_self _, hi0, nx11, r13⟩
    rintro d jf14 _ s15 ⟨i, j, w, rfl, hO16, hd17, hw, hw1, hw2, hwl, hij, hj, hnx, hrx⟩
    obtain ⟨_, N2, vs2, y2, z2, H2, hlo2, C2⟩ := hw.slA (fun _ => rfl)
    refine Ends.seq ?_
    refine Ends.seq ?_
    refine Ends.region ?_
    refine W.op (v := .int .i64 ((j : Nat) : Int)) (fr1 := ⟨[_,_,_,_,_,_,_,_,_,_,_,_,_,_,_,_, .int .i64 ((j : Nat) : Int), _,_,_,_,_,_,_,_,_,_,_,_,_,_,_,_,_,_,_,_,_,_,_,_,_], []⟩) rfl rfl rfl rfl ?_
    refine W.op (v := .slice aa l.length ca) (fr1 := ⟨[_,_,_,_,_,_,_,_,_,_,_,_,_,_,_,_,_, .slice aa l.length ca, _,_,_,_,_,_,_,_,_,_,_,_,_,_,_,_,_,_,_,_,_,_,_,_], []⟩) rfl rfl rfl rfl ?_
    refine W.op (v := .int .i64 ((l.length : Nat) : Int)) (fr1 := ⟨[_,_,_,_,_,_,_,_,_,_,_,_,_,_,_,_,_,_, .int .i64 ((l.length : Nat) : Int), _,_,_,_,_,_,_,_,_,_,_,_,_,_,_,_,_,_,_,_,_,_,_], []⟩) rfl rfl rfl rfl ?_
    by_cases h18 : ((j : Nat) : Int) < ((l.length : Nat) : Int)
    · skip
      refine W.op (v := .bool true) (fr1 := ⟨[_,_,_,_,_,_,_,_,_,_,_,_,_,_,_,_,_,_,_, .bool true, _,_,_,_,_,_,_,_,_,_,_,_,_,_,_,_,_,_,_,_,_,_], []⟩) rfl (p_bin (ltT h18)) rfl rfl ?_
      refine EndsOps.nil ?_
      refine Ends.condT rfl ?_
      refine Ends.skip ?_
      refine Ends.seq ?_
      refine W.block ?_
      refine Ends.seq ?_
      refine Ends.region ?_
      refine W.op (v := .slice aa l.length ca) (fr1 := ⟨[_,_,_,_,_,_,_,_,_,_,_,_,_,_,_,_,_,_,_,_,_,_, .slice aa l.length ca, _,_,_,_,_,_,_,_,_,_,_,_,_,_,_,_,_,_,_], []⟩) rfl rfl rfl rfl ?_
      refine W.op (v := .int .i64 ((j : Nat) : Int)) (fr1 := ⟨[_,_,_,_,_,_,_,_,_,_,_,_,_,_,_,_,_,_,_,_,_,_,_, .int .i64 ((j : Nat) : Int), _,_,_,_,_,_,_,_,_,_,_,_,_,_,_,_,_,_], []⟩) rfl rfl rfl rfl ?_
      obtain ⟨e19, he20⟩ := ex_at (l := w) (i := j) (by omega)
      refine W.op (v := .pointer (some ⟨N2, 0 + j * 3, none⟩)) (fr1 := ⟨[_,_,_,_,_,_,_,_,_,_,_,_,_,_,_,_,_,_,_,_,_,_,_,_, .pointer (some ⟨N2, 0 + j * 3, none⟩), _,_,_,_,_,_,_,_,_,_,_,_,_,_,_,_,_], []⟩) rfl (p_ix (Sl.ixL hwl H2 rfl rfl he20 _)) rfl rfl ?_
      refine W.op (v := .agg ⟨[.int .i64 e19.lo, .int .i64 e19.hi, .string e19.tx]⟩) (fr1 := ⟨[_,_,_,_,_,_,_,_,_,_,_,_,_,_,_,_,_,_,_,_,_,_,_,_,_, .agg ⟨[.int .i64 e19.lo, .int .i64 e19.hi, .string e19.tx]⟩, _,_,_,_,_,_,_,_,_,_,_,_,_,_,_,_], []⟩) rfl (p_loadA (Sl.row' (H2.own (Own.refl s15)) he20) rfl rfl rfl rfl ((H2.own (Own.refl s15)).get _ _ he20)) rfl rfl ?_
      obtain ⟨N21, hN22⟩ : ∃ N, N = s15.next := ⟨_, rfl⟩
      have hnl23 := fun hl => Nat.ne_of_lt (hN22 ▸ (H2.row hl).lt)
      have hb24 : s15.next ≤ N21 := hN22 ▸ (Own.refl s15).next
      refine W.new (N := N21) (vs := [.int .i64 0, .int .i64 0, .string ByteArray.empty]) (fr1 := ⟨[_,_,_,_,_,_,_, .pointer (some ⟨N21, 0, none⟩), _,_,_,_,_,_,_,_,_,_,_,_,_,_,_,_,_,_,_,_,_,_,_,_,_,_,_,_,_,_,_,_,_,_], []⟩) hO16 hN22 rfl (p_alloc zero97 rfl) rfl rfl ?_
      intro s25 hO26 hS27 r28 hB29
      have nx30 : s.next ≤ s25.next := by have := hS27.next; omega
      have hE31 := (Own.refl s15).trans hS27
      have r32 := hrx.own hS27
      refine W.store2 (cs := [.int .i64 e19.lo, .int .i64 e19.hi, .string e19.tx]) (vs' := [.int .i64 e19.lo, .int .i64 e19.hi, .string e19.tx]) (fr1 := ⟨[_,_,_,_,_,_,_,_,_,_,_,_,_,_,_,_,_,_,_,_,_,_,_,_,_,_,_,_,_,_,_,_,_,_,_,_,_,_,_,_,_,_], []⟩) hO26 r28 hB29 rfl rfl rfl rfl (by kernel_rfl) (by simp) (by simp [END, oneCell]) rfl rfl ?_
      intro s33 hO34 hn35 hu36 r37 hX38
      have nx39 : s.next ≤ s33.next := by have := hn35; omega
      have hE40 := hX38 s15 hE31 hb24
      have r41 := r32.upd hn35 hu36 (r32.ne r28 (by decide))
      refine EndsOps.nil ?_
      refine Ends.seq ?_
      refine Ends.region ?_
      refine W.op (v := .func (.func 84) ⟨[]⟩ ⟨[.pointer (some ⟨Nx, 0, none⟩)]⟩) (fr1 := ⟨[_,_,_,_,_,_,_,_,_,_,_,_,_,_,_,_,_,_,_,_,_,_,_,_,_,_, .func (.func 84) ⟨[]⟩ ⟨[.pointer (some ⟨Nx, 0, none⟩)]⟩, _,_,_,_,_,_,_,_,_,_,_,_,_,_,_], []⟩) rfl rfl rfl rfl ?_
      refine W.op (v := .agg ⟨[.int .i64 e19.lo, .int .i64 e19.hi, .string e19.tx]⟩) (fr1 := ⟨[_,_,_,_,_,_,_,_,_,_,_,_,_,_,_,_,_,_,_,_,_,_,_,_,_,_,_, .agg ⟨[.int .i64 e19.lo, .int .i64 e19.hi, .string e19.tx]⟩, _,_,_,_,_,_,_,_,_,_,_,_,_,_], []⟩) rfl (p_loadA r37 rfl rfl rfl rfl rfl) rfl rfl ?_
      by_cases h42 : SameX x e19
      · skip
        refine W.callC (ar := [.agg ⟨[.int .i64 e19.lo, .int .i64 e19.hi, .string e19.tx]⟩, .pointer (some ⟨Nx, 0, none⟩)]) (X := .bool true) (fr1 := ⟨[_,_,_,_,_,_,_,_,_,_,_,_,_,_,_,_,_,_,_,_,_,_,_,_,_,_,_,_, .bool true, _,_,_,_,_,_,_,_,_,_,_,_,_], []⟩) hO34 rfl rfl rfl rfl ((c84 e19 Nx zx x (hW _ (List.mem_of_getElem? ((hw2 j (Nat.le_refl _)).symm.trans he20))) _ r41).mono fun v _ _ h => h.trans (congrArg Value.bool (decide_eq_true h42))) rfl ?_
        intro s43 hO44 hS45
        have nx46 : s.next ≤ s43.next := by have := hS45.next; omega
        have hE47 := hE40.trans hS45
        have r48 := r41.own hS45
        have r49 := r37.own hS45
        refine W.op (v := .bool false) (fr1 := ⟨[_,_,_,_,_,_,_,_,_,_,_,_,_,_,_,_,_,_,_,_,_,_,_,_,_,_,_,_,_, .bool false, _,_,_,_,_,_,_,_,_,_,_,_], []⟩) rfl rfl rfl rfl ?_
        refine EndsOps.nil ?_
        refine Ends.condF rfl ?_
        refine Ends.skip ?_
        refine Ends.region ?_
        refine W.op (v := .int .i64 ((j : Nat) : Int)) (fr1 := ⟨[_,_,_,_,_,_,_,_,_,_,_,_,_,_,_,_,_,_,_,_, .int .i64 ((j : Nat) : Int), _,_,_,_,_,_,_,_,_,_,_,_,_,_,_,_,_,_,_,_,_], []⟩) rfl rfl rfl rfl ?_
        refine W.op (v := .int .i64 ((j + 1 : Nat) : Int)) (fr1 := ⟨[_,_,_,_,_,_,_,_,_,_,_,_,_,_,_,_,_,_,_,_,_, .int .i64 ((j + 1 : Nat) : Int), _,_,_,_,_,_,_,_,_,_,_,_,_,_,_,_,_,_,_,_], []⟩) rfl (p_bin (addI (by omega) (by omega) (by omega))) rfl rfl ?_
        refine W.op (v := .int .i64 ((j + 1 : Nat) : Int)) (fr1 := ⟨[_,_,_,_,_,_, .int .i64 ((j + 1 : Nat) : Int), _,_,_,_,_,_,_,_,_,_,_,_,_,_,_,_,_,_,_,_,_,_,_,_,_,_,_,_,_,_,_,_,_,_,_], []⟩) rfl rfl rfl rfl ?_
        refine EndsOps.nil ?_
        exact ⟨_, (by omega), i, j + 1, w, (by kernel_rfl), hO44, rfl, (hw.own hE47), (by rw [rm_T ((hw2 j (Nat.le_refl _)).symm.trans he20) h42]; exact hw1), (fun k hk => hw2 k (by omega)), hwl, by omega, by omega, nx46, r48⟩
      · skip
        refine W.callC (ar := [.agg ⟨[.int .i64 e19.lo, .int .i64 e19.hi, .string e19.tx]⟩, .pointer (some ⟨Nx, 0, none⟩)]) (X := .bool false) (fr1 := ⟨[_,_,_,_,_,_,_,_,_,_,_,_,_,_,_,_,_,_,_,_,_,_,_,_,_,_,_,_, .bool false, _,_,_,_,_,_,_,_,_,_,_,_,_], []⟩) hO34 rfl rfl rfl rfl ((c84 e19 Nx zx x (hW _ (List.mem_of_getElem? ((hw2 j (Nat.le_refl _)).symm.trans he20))) _ r41).mono fun v _ _ h => h.trans (congrArg Value.bool (decide_eq_false h42))) rfl ?_
        intro s50 hO51 hS52
        have nx53 : s.next ≤ s50.next := by have := hS52.next; omega
        have hE54 := hE40.trans hS52
        have r55 := r41.own hS52
        have r56 := r37.own hS52
        refine W.op (v := .bool true) (fr1 := ⟨[_,_,_,_,_,_,_,_,_,_,_,_,_,_,_,_,_,_,_,_,_,_,_,_,_,_,_,_,_, .bool true, _,_,_,_,_,_,_,_,_,_,_,_], []⟩) rfl rfl rfl rfl ?_
        refine EndsOps.nil ?_
        refine Ends.condT rfl ?_
        refine Ends.seq ?_
        refine Ends.region ?_
        refine W.op (v := .slice aa l.length ca) (fr1 := ⟨[_,_,_,_,_,_,_,_,_,_,_,_,_,_,_,_,_,_,_,_,_,_,_,_,_,_,_,_,_,_, .slice aa l.length ca, _,_,_,_,_,_,_,_,_,_,_], []⟩) rfl rfl rfl rfl ?_
        refine W.op (v := .int .i64 ((i : Nat) : Int)) (fr1 := ⟨[_,_,_,_,_,_,_,_,_,_,_,_,_,_,_,_,_,_,_,_,_,_,_,_,_,_,_,_,_,_,_, .int .i64 ((i : Nat) : Int), _,_,_,_,_,_,_,_,_,_], []⟩) rfl rfl rfl rfl ?_
        refine W.op (v := .agg ⟨[.int .i64 e19.lo, .int .i64 e19.hi, .string e19.tx]⟩) (fr1 := ⟨[_,_,_,_,_,_,_,_,_,_,_,_,_,_,_,_,_,_,_,_,_,_,_,_,_,_,_,_,_,_,_,_, .agg ⟨[.int .i64 e19.lo, .int .i64 e19.hi, .string e19.tx]⟩, _,_,_,_,_,_,_,_,_], []⟩) rfl (p_loadA r56 rfl rfl rfl rfl rfl) rfl rfl ?_
        obtain ⟨e57, he58⟩ := ex_at (l := w) (i := i) (by omega)
        refine W.op (v := .pointer (some ⟨N2, 0 + i * 3, none⟩)) (fr1 := ⟨[_,_,_,_,_,_,_,_,_,_,_,_,_,_,_,_,_,_,_,_,_,_,_,_,_,_,_,_,_,_,_,_,_, .pointer (some ⟨N2, 0 + i * 3, none⟩), _,_,_,_,_,_,_,_], []⟩) rfl (p_ix (Sl.ixL hwl H2 rfl rfl he58 _)) rfl rfl ?_
        have hc64 := ne_nil_at he58
        obtain ⟨r59, lo60, hh61, ha62, hb63⟩ := OL.at (m := 3) (of := 0) (hw.own hE54) (H2.own hE54) (fun _ => rfl) he58 rfl (by decide)
        obtain ⟨y65, hy66⟩ : ∃ z0 : Ed, z0 = ⟨e19.lo, e19.hi, e19.tx⟩ := ⟨_, rfl⟩
        refine W.store2 (cs := [.int .i64 e19.lo, .int .i64 e19.hi, .string e19.tx]) (fr1 := ⟨[_,_,_,_,_,_,_,_,_,_,_,_,_,_,_,_,_,_,_,_,_,_,_,_,_,_,_,_,_,_,_,_,_,_,_,_,_,_,_,_,_,_], []⟩) hO51 r59 lo60 rfl rfl rfl rfl (by kernel_rfl) (by simp) ⟨hh61, ha62, hb63, rfl⟩ rfl rfl ?_
        intro s67 hO68 hn69 hu70 r71 hX72
        obtain ⟨hol73, H74, hel75⟩ := OL.set (of := 0) (y' := y65) (hw.own hE54) (H2.own hE54) (fun _ => rfl) he58 rfl (by simp) (by rw [hy66]; rfl) r71
        have nx76 : s.next ≤ s67.next := by have := hn69; omega
        have r77 := r55.upd hn69 hu70 (r55.ne r59 (by decide))
        have r78 := r56.upd hn69 hu70 (Ne.symm (hnl23 hc64))
        refine EndsOps.nil ?_
        refine Ends.region ?_
        refine W.op (v := .int .i64 ((i : Nat) : Int)) (fr1 := ⟨[_,_,_,_,_,_,_,_,_,_,_,_,_,_,_,_,_,_,_,_,_,_,_,_,_,_,_,_,_,_,_,_,_,_, .int .i64 ((i : Nat) : Int), _,_,_,_,_,_,_], []⟩) rfl rfl rfl rfl ?_
        refine W.op (v := .int .i64 ((i + 1 : Nat) : Int)) (fr1 := ⟨[_,_,_,_,_,_,_,_,_,_,_,_,_,_,_,_,_,_,_,_,_,_,_,_,_,_,_,_,_,_,_,_,_,_,_, .int .i64 ((i + 1 : Nat) : Int), _,_,_,_,_,_], []⟩) rfl (p_bin (addI (by omega) (by omega) (by omega))) rfl rfl ?_
        refine W.op (v := .int .i64 ((i + 1 : Nat) : Int)) (fr1 := ⟨[_,_,_,_,_, .int .i64 ((i + 1 : Nat) : Int), _,_,_,_,_,_,_,_,_,_,_,_,_,_,_,_,_,_,_,_,_,_,_,_,_,_,_,_,_,_,_,_,_,_,_,_], []⟩) rfl rfl rfl rfl ?_
        refine EndsOps.nil ?_
        refine Ends.region ?_
        refine W.op (v := .int .i64 ((j : Nat) : Int)) (fr1 := ⟨[_,_,_,_,_,_,_,_,_,_,_,_,_,_,_,_,_,_,_,_, .int .i64 ((j : Nat) : Int), _,_,_,_,_,_,_,_,_,_,_,_,_,_,_,_,_,_,_,_,_], []⟩) rfl rfl rfl rfl ?_
        refine W.op (v := .int .i64 ((j + 1 : Nat) : Int)) (fr1 := ⟨[_,_,_,_,_,_,_,_,_,_,_,_,_,_,_,_,_,_,_,_,_, .int .i64 ((j + 1 : Nat) : Int), _,_,_,_,_,_,_,_,_,_,_,_,_,_,_,_,_,_,_,_], []⟩) rfl (p_bin (addI (by omega) (by omega) (by omega))) rfl rfl ?_
        refine W.op (v := .int .i64 ((j + 1 : Nat) : Int)) (fr1 := ⟨[_,_,_,_,_,_, .int .i64 ((j + 1 : Nat) : Int), _,_,_,_,_,_,_,_,_,_,_,_,_,_,_,_,_,_,_,_,_,_,_,_,_,_,_,_,_,_,_,_,_,_,_], []⟩) rfl rfl rfl rfl ?_
        refine EndsOps.nil ?_
        exact ⟨_, (by omega), i + 1, j + 1, (w.set i y65), (by kernel_rfl), hO68, rfl, hol73, (by rw [rm_F ((hw2 j (Nat.le_refl _)).symm.trans he20) h42, set_take _ _ (by omega), hw1, hy66]), (fun k hk => by rw [List.getElem?_set_ne (by omega)]; exact hw2 k (by omega)), (by rw [List.length_set]; exact hwl), by omega, by omega, nx76, r77⟩
    · skip
      refine W.op (v := .bool false) (fr1 := ⟨[_,_,_,_,_,_,_,_,_,_,_,_,_,_,_,_,_,_,_, .bool false, _,_,_,_,_,_,_,_,_,_,_,_,_,_,_,_,_,_,_,_,_,_], []⟩) rfl (p_bin (ltF h18)) rfl rfl ?_
      refine EndsOps.nil ?_
      refine Ends.condF rfl ?_
      refine Ends.exit ?_
      refine W.outT rfl ?_
      refine Ends.seq ?_
      refine Ends.region ?_
      refine W.op (v := .slice aa l.length ca) (fr1 := ⟨[_,_,_,_,_,_,_,_,_,_,_,_,_,_,_,_,_,_,_,_,_,_,_,_,_,_,_,_,_,_,_,_,_,_,_,_, .slice aa l.length ca, _,_,_,_,_], []⟩) rfl rfl rfl rfl ?_
      refine W.op (v := .int .i64 ((i : Nat) : Int)) (fr1 := ⟨[_,_,_,_,_,_,_,_,_,_,_,_,_,_,_,_,_,_,_,_,_,_,_,_,_,_,_,_,_,_,_,_,_,_,_,_,_, .int .i64 ((i : Nat) : Int), _,_,_,_], []⟩) rfl rfl rfl rfl ?_
      have hnw : w ≠ [] := by intro h0; rw [h0] at hwl; simp at hwl; omega
      have hOW := hw
      have hSW := H2
      obtain ⟨haw, _, hcw, _, _, _, _, _⟩ := hOW.opened hSW hnw
      refine W.op (v := .slice (some ⟨N2, i * 3, none⟩) (l.length - i) (END + 3)) (fr1 := ⟨[_,_,_,_,_,_,_,_,_,_,_,_,_,_,_,_,_,_,_,_,_,_,_,_,_,_,_,_,_,_,_,_,_,_,_,_,_,_, .slice (some ⟨N2, i * 3, none⟩) (l.length - i) (END + 3), _,_,_], []⟩) rfl (p_dropOL rfl haw hcw rfl rfl rfl (by omega)) rfl rfl ?_
      refine W.clearE (m := i) (fr1 := ⟨[_,_,_,_,_,_,_,_,_,_,_,_,_,_,_,_,_,_,_,_,_,_,_,_,_,_,_,_,_,_,_,_,_,_,_,_,_,_,_,_,_,_], []⟩) hO16 hOW hSW (fun _ => rfl) rfl rfl rfl (by omega) (by omega) (by decide) (by kernel_rfl) zero97 (by kernel_rfl) rfl rfl rfl ?_
      intro s79 vs80 hO81 hn82 H83
      have nx84 : s.next ≤ s79.next := by have := hn82; omega
      refine EndsOps.nil ?_
      refine Ends.seq ?_
      refine Ends.region ?_
      refine W.op (v := .slice aa l.length ca) (fr1 := ⟨[_,_,_,_,_,_,_,_,_,_,_,_,_,_,_,_,_,_,_,_,_,_,_,_,_,_,_,_,_,_,_,_,_,_,_,_,_,_,_, .slice aa l.length ca, _,_], []⟩) rfl rfl rfl rfl ?_
      refine W.op (v := .int .i64 ((i : Nat) : Int)) (fr1 := ⟨[_,_,_,_,_,_,_,_,_,_,_,_,_,_,_,_,_,_,_,_,_,_,_,_,_,_,_,_,_,_,_,_,_,_,_,_,_,_,_,_, .int .i64 ((i : Nat) : Int), _], []⟩) rfl rfl rfl rfl ?_
      refine W.op (v := .slice aa i ca) (fr1 := ⟨[_,_,_,_,_,_,_,_,_,_,_,_,_,_,_,_,_,_,_,_,_,_,_,_,_,_,_,_,_,_,_,_,_,_,_,_,_,_,_,_,_, .slice aa i ca], []⟩) rfl (p_sliceTo (el := 97) rfl rfl rfl rfl C2 (by omega)) rfl rfl ?_
      refine W.op (v := .slice aa i ca) (fr1 := ⟨[_,_,_,_, .slice aa i ca, _,_,_,_,_,_,_,_,_,_,_,_,_,_,_,_,_,_,_,_,_,_,_,_,_,_,_,_,_,_,_,_,_,_,_,_,_], []⟩) rfl rfl rfl rfl ?_
      refine EndsOps.nil ?_
      refine Ends.ret ?_
      exact ⟨rfl, rfl, ⟨hO81, nx84⟩, (by have hfin : w.take i = rmP (SameX x) l := (by rw [hw1, show j = l.length by omega, List.take_length]); have hln : (rmP (SameX x) l).length = i := (by rw [← hfin, List.length_take, Nat.min_eq_left (by omega)]); have hF := H83; rw [hfin] at hF; exact ⟨aa, ca, _, _, _, _, by rw [hln]; rfl, hF⟩)⟩
end Go.Ev.R1

