/-
  EV: contracts of the first seat's functions.
-/
import Derived.Test.YtelpkdjibjddlaaEvC2
import Derived.Test.YtelpkdjibjddlaaEvShift
set_option linter.unusedSimpArgs false
set_option linter.unusedVariables false
namespace Go.Ev.R1
open Go Go.Ev Go.Proofs
set_option maxRecDepth 10000

theorem zero101 : R1.T.zero 101 = some (.agg ⟨[.int .i64 0, .int .i64 0, .int .i64 0]⟩) := by kernel_rfl
theorem zero39 : R1.T.zero 39 = some (.agg ⟨[.int .i64 0, .int .i64 0]⟩) := by kernel_rfl
theorem zero3 : R1.T.zero 3 = some (.int .i64 0) := by kernel_rfl
theorem app98 : AppOk R1.T 98 98 101 3 24 := ⟨by kernel_rfl, by kernel_rfl, by kernel_rfl, by kernel_rfl, ⟨_, zero101, rfl⟩, by decide, by decide⟩
theorem app31 : AppOk R1.T 31 31 39 2 16 := ⟨by kernel_rfl, by kernel_rfl, by kernel_rfl, by kernel_rfl, ⟨_, zero39, rfl⟩, by decide, by decide⟩
theorem app102 : AppOk R1.T 102 102 3 1 8 := ⟨by kernel_rfl, by kernel_rfl, by kernel_rfl, by kernel_rfl, ⟨_, zero3, rfl⟩, by decide, by decide⟩

theorem c65 (al : Option Addr) (l : List Ed) (cl Nl ol : Nat) (vl : List Value) (yl zl : Nat) (n : Int) (hB : l.length ≤ 1000) (s : St) (Hl : Sl Ed.cells 3 s.t s.next al l Nl ol vl yl zl)  : EndsPure R1.T 65 [.slice al l.length cl, .int .i64 n] s (fun v t m => OL Run.cells 3 101 s.next t m v (runsS l n)) := by
  refine EndsPure.of (rs := [4]) (fr0 := ⟨[.slice al l.length cl, .int .i64 n, undef, undef, undef, undef, undef, undef, undef, undef, undef, undef, undef, undef, undef, undef, undef, undef, undef, undef, undef, undef, undef, undef, undef, undef, undef, undef, undef, undef, undef, undef, undef, undef, undef, undef, undef, undef, undef, undef, undef, undef, undef, undef, undef], []⟩) (by kernel_rfl : R1.T.fn 65 = some ⟨45, (Try.f65.body).getD .skip, [.tmp 4]⟩) rfl ?_
  have hO0 := Own.refl s
  have Ml := Hl.small
  simp only [Try.f65, Option.getD]
  refine Ends.seq ?_
  refine Ends.region ?_
  refine W.op (v := .slice none 0 0) (fr1 := ⟨[_, _, _, _, .slice none 0 0, _, _, _, _, _, _, _, _, _, _, _, _, _, _, _, _, _, _, _, _, _, _, _, _, _, _, _, _, _, _, _, _, _, _, _, _, _, _, _, _], []⟩) rfl rfl rfl rfl ?_
  refine EndsOps.nil ?_
  refine Ends.seq ?_
  refine Ends.region ?_
  refine W.op (v := .slice none 0 0) (fr1 := ⟨[_, _, _, _, _, .slice none 0 0, _, _, _, _, _, _, _, _, _, _, _, _, _, _, _, _, _, _, _, _, _, _, _, _, _, _, _, _, _, _, _, _, _, _, _, _, _, _, _], []⟩) rfl rfl rfl rfl ?_
  refine EndsOps.nil ?_
  refine Ends.seq ?_
  refine Ends.region ?_
  refine W.op (v := .int .i64 0) (fr1 := ⟨[_, _, _, _, _, _, .int .i64 0, _, _, _, _, _, _, _, _, _, _, _, _, _, _, _, _, _, _, _, _, _, _, _, _, _, _, _, _, _, _, _, _, _, _, _, _, _, _], []⟩) rfl rfl rfl rfl ?_
  refine W.op (v := .int .i64 0) (fr1 := ⟨[_, _, _, _, _, _, _, .int .i64 0, _, _, _, _, _, _, _, _, _, _, _, _, _, _, _, _, _, _, _, _, _, _, _, _, _, _, _, _, _, _, _, _, _, _, _, _, _], []⟩) rfl rfl rfl rfl ?_
  refine EndsOps.nil ?_
  refine Ends.seq ?_
  refine Ends.seq ?_
  refine Ends.region ?_
  refine W.op (v := .slice al l.length cl) (fr1 := ⟨[_, _, _, _, _, _, _, _, _, _, .slice al l.length cl, _, _, _, _, _, _, _, _, _, _, _, _, _, _, _, _, _, _, _, _, _, _, _, _, _, _, _, _, _, _, _, _, _, _], []⟩) rfl rfl rfl rfl ?_
  refine W.op (v := .int .i64 ((l.length : Nat) : Int)) (fr1 := ⟨[_, _, _, _, _, _, _, _, _, _, _, .int .i64 ((l.length : Nat) : Int), _, _, _, _, _, _, _, _, _, _, _, _, _, _, _, _, _, _, _, _, _, _, _, _, _, _, _, _, _, _, _, _, _], []⟩) rfl rfl rfl rfl ?_
  refine W.op (v := .int .i64 0) (fr1 := ⟨[_, _, _, _, _, _, _, _, _, _, _, _, .int .i64 0, _, _, _, _, _, _, _, _, _, _, _, _, _, _, _, _, _, _, _, _, _, _, _, _, _, _, _, _, _, _, _, _], []⟩) rfl rfl rfl rfl ?_
  refine EndsOps.nil ?_
  refine W.block ?_
  refine Ends.loopInv (fun d fr s1 => ∃ (i : Nat) (v : Value) (j9 j13 j14 j15 j16 j17 j18 j19 j20 j21 j22 j23 j24 j25 j26 j27 j28 j29 j30 j31 j32 j33 j34 j35 j36 j37 : Value), fr = ⟨[.slice al l.length cl, .int .i64 n, undef, undef, .slice none 0 0, v, .int .i64 ((runF (l.take i)).2.1), .int .i64 ((runF (l.take i)).2.2), undef, j9, .slice al l.length cl, .int .i64 ((l.length : Nat) : Int), .int .i64 ((i : Nat) : Int), j13, j14, j15, j16, j17, j18, j19, j20, j21, j22, j23, j24, j25, j26, j27, j28, j29, j30, j31, j32, j33, j34, j35, j36, j37, undef, undef, undef, undef, undef, undef, undef], []⟩ ∧ Own s s1 ∧ d = l.length - i ∧ (OL Run.cells 3 101 s.next s1.t s1.next v ((runF (l.take i)).1)) ∧ (i ≤ l.length)) ?_ _ _ _ ⟨0, .slice none 0 0, _, _, _, _, _, _, _, _, _, _, _, _, _, _, _, _, _, _, _, _, _, _, _, _, _, _, rfl, hO0, rfl, OL.nil, Nat.zero_le _⟩
  rintro d _ s1 ⟨i, v, j9, j13, j14, j15, j16, j17, j18, j19, j20, j21, j22, j23, j24, j25, j26, j27, j28, j29, j30, j31, j32, j33, j34, j35, j36, j37, rfl, hO2, hd3, hol4, hi⟩
  have gl : (runF (l.take i)).1.length = i := runF_len' hi
  refine Ends.seq ?_
  refine Ends.region ?_
  by_cases h5 : ((i : Nat) : Int) < ((l.length : Nat) : Int)
  · skip
    refine W.op (v := .bool true) (fr1 := ⟨[_, _, _, _, _, _, _, _, _, _, _, _, _, .bool true, _, _, _, _, _, _, _, _, _, _, _, _, _, _, _, _, _, _, _, _, _, _, _, _, _, _, _, _, _, _, _], []⟩) rfl (p_bin (ltT h5)) rfl rfl ?_
    refine EndsOps.nil ?_
    refine Ends.seq ?_
    refine Ends.condT rfl ?_
    refine Ends.skip ?_
    refine Ends.seq ?_
    refine W.block ?_
    refine Ends.seq ?_
    refine Ends.region ?_
    obtain ⟨e6, he7⟩ := ex_at (l := l) (i := i) (by omega)
    refine W.op (v := .pointer (some ⟨Nl, ol + i * 3, none⟩)) (fr1 := ⟨[_, _, _, _, _, _, _, _, _, _, _, _, _, _, .pointer (some ⟨Nl, ol + i * 3, none⟩), _, _, _, _, _, _, _, _, _, _, _, _, _, _, _, _, _, _, _, _, _, _, _, _, _, _, _, _, _, _], []⟩) rfl (p_ix (Sl.ix Hl rfl rfl he7 _)) rfl rfl ?_
    refine W.op (v := .agg ⟨[.int .i64 e6.lo, .int .i64 e6.hi, .string e6.tx]⟩) (fr1 := ⟨[_, _, _, _, _, _, _, _, _, _, _, _, _, _, _, .agg ⟨[.int .i64 e6.lo, .int .i64 e6.hi, .string e6.tx]⟩, _, _, _, _, _, _, _, _, _, _, _, _, _, _, _, _, _, _, _, _, _, _, _, _, _, _, _, _, _], []⟩) rfl (p_loadA (Sl.row' (Hl.own hO2) he7) rfl rfl rfl rfl ((Hl.own hO2).get _ _ he7)) rfl rfl ?_
    obtain ⟨N8, hN9⟩ : ∃ N, N = s1.next := ⟨_, rfl⟩
    have hb10 : s1.next ≤ N8 := hN9 ▸ (Own.refl s1).next
    refine W.new (N := N8) (vs := [.int .i64 0, .int .i64 0, .string ByteArray.empty]) (fr1 := ⟨[_, _, _, _, _, _, _, _, _, .pointer (some ⟨N8, 0, none⟩), _, _, _, _, _, _, _, _, _, _, _, _, _, _, _, _, _, _, _, _, _, _, _, _, _, _, _, _, _, _, _, _, _, _, _], []⟩) hO2 hN9 rfl (p_alloc zero97 rfl) rfl rfl ?_
    intro s11 hO12 hS13 r14 hB15
    have hE16 := (Own.refl s1).trans hS13
    refine W.store2 (cs := [.int .i64 e6.lo, .int .i64 e6.hi, .string e6.tx]) (vs' := [.int .i64 e6.lo, .int .i64 e6.hi, .string e6.tx]) (fr1 := ⟨[_, _, _, _, _, _, _, _, _, _, _, _, _, _, _, _, _, _, _, _, _, _, _, _, _, _, _, _, _, _, _, _, _, _, _, _, _, _, _, _, _, _, _, _, _], []⟩) hO12 r14 hB15 rfl rfl rfl rfl (by kernel_rfl) (by simp) (by simp [END, oneCell]) rfl rfl ?_
    intro s17 hO18 hn19 hu20 r21 hX22
    have hE23 := hX22 s1 hE16 hb10
    refine EndsOps.nil ?_
    refine Ends.seq ?_
    refine Ends.region ?_
    refine W.op (v := v) (fr1 := ⟨[_, _, _, _, _, _, _, _, _, _, _, _, _, _, _, _, v, _, _, _, _, _, _, _, _, _, _, _, _, _, _, _, _, _, _, _, _, _, _, _, _, _, _, _, _], []⟩) rfl rfl rfl rfl ?_
    refine W.op (v := .int .i64 ((runF (l.take i)).2.1)) (fr1 := ⟨[_, _, _, _, _, _, _, _, _, _, _, _, _, _, _, _, _, .int .i64 ((runF (l.take i)).2.1), _, _, _, _, _, _, _, _, _, _, _, _, _, _, _, _, _, _, _, _, _, _, _, _, _, _, _], []⟩) rfl rfl rfl rfl ?_
    refine W.op (v := .pointer (some ⟨N8, 0, none⟩)) (fr1 := ⟨[_, _, _, _, _, _, _, _, _, _, _, _, _, _, _, _, _, _, .pointer (some ⟨N8, 0, none⟩), _, _, _, _, _, _, _, _, _, _, _, _, _, _, _, _, _, _, _, _, _, _, _, _, _, _], []⟩) rfl rfl rfl rfl ?_
    refine W.op (v := .int .i64 e6.lo) (fr1 := ⟨[_, _, _, _, _, _, _, _, _, _, _, _, _, _, _, _, _, _, _, .int .i64 e6.lo, _, _, _, _, _, _, _, _, _, _, _, _, _, _, _, _, _, _, _, _, _, _, _, _, _], []⟩) rfl (p_load1 r21 rfl rfl rfl rfl) rfl rfl ?_
    refine W.op (v := .int .i64 ((runF (l.take i)).2.2)) (fr1 := ⟨[_, _, _, _, _, _, _, _, _, _, _, _, _, _, _, _, _, _, _, _, .int .i64 ((runF (l.take i)).2.2), _, _, _, _, _, _, _, _, _, _, _, _, _, _, _, _, _, _, _, _, _, _, _, _], []⟩) rfl rfl rfl rfl ?_
    refine W.op (v := .agg ⟨[.int .i64 ((runF (l.take i)).2.1), .int .i64 e6.lo, .int .i64 ((runF (l.take i)).2.2)]⟩) (fr1 := ⟨[_, _, _, _, _, _, _, _, _, _, _, _, _, _, _, _, _, _, _, _, _, .agg ⟨[.int .i64 ((runF (l.take i)).2.1), .int .i64 e6.lo, .int .i64 ((runF (l.take i)).2.2)]⟩, _, _, _, _, _, _, _, _, _, _, _, _, _, _, _, _, _, _, _, _, _, _, _], []⟩) rfl rfl rfl rfl ?_
    obtain ⟨N24, hN25⟩ : ∃ N, N = s17.next := ⟨_, rfl⟩
    have hb26 : s1.next ≤ N24 := hN25 ▸ hE23.next
    refine W.newS (N := N24) (vs := [.int .i64 ((runF (l.take i)).2.1), .int .i64 e6.lo, .int .i64 ((runF (l.take i)).2.2)]) (fr1 := ⟨[_, _, _, _, _, _, _, _, _, _, _, _, _, _, _, _, _, _, _, _, _, _, .slice (some ⟨N24, 0, none⟩) 1 1, _, _, _, _, _, _, _, _, _, _, _, _, _, _, _, _, _, _, _, _, _, _], []⟩) hO18 hN25 rfl (p_bs rfl rfl zero101 rfl (by decide) rfl rfl) rfl rfl ?_
    intro s27 hO28 hS29 r30 hB31
    have hE32 := hE23.trans hS29
    have r33 := r21.own hS29
    refine W.append (c := Run.cells) (l := ((runF (l.take i)).1)) (x := ⟨(runF (l.take i)).2.1, e6.lo, (runF (l.take i)).2.2⟩) (fF := fun v34 => ⟨[_, _, _, _, _, _, _, _, _, _, _, _, _, _, _, _, _, _, _, _, _, _, _, v34, _, _, _, _, _, _, _, _, _, _, _, _, _, _, _, _, _, _, _, _, _], []⟩) app98 (fun _ => rfl) (by exact Run.one) hO28 hE32 hol4 r30 rfl rfl rfl rfl (by omega) (by omega) (fun _ => rfl) ?_
    intro v34 s35 hO36 hnx37 hu38 hol39
    have r40 : Row s35.t s35.next _ _ _ _ := ⟨(hu38 _ hb10 r33.lt).trans r33.get, Nat.lt_of_lt_of_le r33.lt hnx37⟩
    have r41 : Row s35.t s35.next _ _ _ _ := ⟨(hu38 _ hb26 r30.lt).trans r30.get, Nat.lt_of_lt_of_le r30.lt hnx37⟩
    refine W.op (v := v34) (fr1 := ⟨[_, _, _, _, _, v34, _, _, _, _, _, _, _, _, _, _, _, _, _, _, _, _, _, _, _, _, _, _, _, _, _, _, _, _, _, _, _, _, _, _, _, _, _, _, _], []⟩) rfl rfl rfl rfl ?_
    refine EndsOps.nil ?_
    refine Ends.seq ?_
    refine Ends.region ?_
    refine W.op (v := .pointer (some ⟨N8, 1, none⟩)) (fr1 := ⟨[_, _, _, _, _, _, _, _, _, _, _, _, _, _, _, _, _, _, _, _, _, _, _, _, .pointer (some ⟨N8, 1, none⟩), _, _, _, _, _, _, _, _, _, _, _, _, _, _, _, _, _, _, _, _], []⟩) rfl rfl rfl rfl ?_
    refine W.op (v := .int .i64 e6.hi) (fr1 := ⟨[_, _, _, _, _, _, _, _, _, _, _, _, _, _, _, _, _, _, _, _, _, _, _, _, _, .int .i64 e6.hi, _, _, _, _, _, _, _, _, _, _, _, _, _, _, _, _, _, _, _], []⟩) rfl (p_load1 r40 rfl rfl rfl rfl) rfl rfl ?_
    refine W.op (v := .int .i64 ((runF (l.take (i + 1))).2.1)) (fr1 := ⟨[_, _, _, _, _, _, .int .i64 ((runF (l.take (i + 1))).2.1), _, _, _, _, _, _, _, _, _, _, _, _, _, _, _, _, _, _, _, _, _, _, _, _, _, _, _, _, _, _, _, _, _, _, _, _, _, _], []⟩) rfl (by rw [runF_step he7]; rfl) rfl rfl ?_
    refine EndsOps.nil ?_
    refine Ends.region ?_
    refine W.op (v := .int .i64 ((runF (l.take i)).2.2)) (fr1 := ⟨[_, _, _, _, _, _, _, _, _, _, _, _, _, _, _, _, _, _, _, _, _, _, _, _, _, _, .int .i64 ((runF (l.take i)).2.2), _, _, _, _, _, _, _, _, _, _, _, _, _, _, _, _, _, _], []⟩) rfl rfl rfl rfl ?_
    refine W.op (v := .pointer (some ⟨N8, 2, none⟩)) (fr1 := ⟨[_, _, _, _, _, _, _, _, _, _, _, _, _, _, _, _, _, _, _, _, _, _, _, _, _, _, _, .pointer (some ⟨N8, 2, none⟩), _, _, _, _, _, _, _, _, _, _, _, _, _, _, _, _, _], []⟩) rfl rfl rfl rfl ?_
    refine W.op (v := .string e6.tx) (fr1 := ⟨[_, _, _, _, _, _, _, _, _, _, _, _, _, _, _, _, _, _, _, _, _, _, _, _, _, _, _, _, .string e6.tx, _, _, _, _, _, _, _, _, _, _, _, _, _, _, _, _], []⟩) rfl (p_load1 r40 rfl rfl rfl rfl) rfl rfl ?_
    refine W.op (v := .int .i64 (((B e6.tx).length : Nat) : Int)) (fr1 := ⟨[_, _, _, _, _, _, _, _, _, _, _, _, _, _, _, _, _, _, _, _, _, _, _, _, _, _, _, _, _, .int .i64 (((B e6.tx).length : Nat) : Int), _, _, _, _, _, _, _, _, _, _, _, _, _, _, _], []⟩) rfl rfl rfl rfl ?_
    refine W.op (v := .pointer (some ⟨N8, 1, none⟩)) (fr1 := ⟨[_, _, _, _, _, _, _, _, _, _, _, _, _, _, _, _, _, _, _, _, _, _, _, _, _, _, _, _, _, _, .pointer (some ⟨N8, 1, none⟩), _, _, _, _, _, _, _, _, _, _, _, _, _, _], []⟩) rfl rfl rfl rfl ?_
    refine W.op (v := .int .i64 e6.hi) (fr1 := ⟨[_, _, _, _, _, _, _, _, _, _, _, _, _, _, _, _, _, _, _, _, _, _, _, _, _, _, _, _, _, _, _, .int .i64 e6.hi, _, _, _, _, _, _, _, _, _, _, _, _, _], []⟩) rfl (p_load1 r40 rfl rfl rfl rfl) rfl rfl ?_
    refine W.op (v := .pointer (some ⟨N8, 0, none⟩)) (fr1 := ⟨[_, _, _, _, _, _, _, _, _, _, _, _, _, _, _, _, _, _, _, _, _, _, _, _, _, _, _, _, _, _, _, _, .pointer (some ⟨N8, 0, none⟩), _, _, _, _, _, _, _, _, _, _, _, _], []⟩) rfl rfl rfl rfl ?_
    refine W.op (v := .int .i64 e6.lo) (fr1 := ⟨[_, _, _, _, _, _, _, _, _, _, _, _, _, _, _, _, _, _, _, _, _, _, _, _, _, _, _, _, _, _, _, _, _, .int .i64 e6.lo, _, _, _, _, _, _, _, _, _, _, _], []⟩) rfl (p_load1 r40 rfl rfl rfl rfl) rfl rfl ?_
    refine W.op (v := .int .i64 (W (e6.hi - e6.lo))) (fr1 := ⟨[_, _, _, _, _, _, _, _, _, _, _, _, _, _, _, _, _, _, _, _, _, _, _, _, _, _, _, _, _, _, _, _, _, _, .int .i64 (W (e6.hi - e6.lo)), _, _, _, _, _, _, _, _, _, _], []⟩) rfl (p_bin subW) rfl rfl ?_
    refine W.op (v := .int .i64 (W ((((B e6.tx).length : Nat) : Int) - W (e6.hi - e6.lo)))) (fr1 := ⟨[_, _, _, _, _, _, _, _, _, _, _, _, _, _, _, _, _, _, _, _, _, _, _, _, _, _, _, _, _, _, _, _, _, _, _, .int .i64 (W ((((B e6.tx).length : Nat) : Int) - W (e6.hi - e6.lo))), _, _, _, _, _, _, _, _, _], []⟩) rfl (p_bin subW) rfl rfl ?_
    refine W.op (v := .int .i64 ((runF (l.take (i + 1))).2.2)) (fr1 := ⟨[_, _, _, _, _, _, _, _, _, _, _, _, _, _, _, _, _, _, _, _, _, _, _, _, _, _, _, _, _, _, _, _, _, _, _, _, .int .i64 ((runF (l.take (i + 1))).2.2), _, _, _, _, _, _, _, _], []⟩) rfl (p_bin (addW.trans (congrArg (fun z => some (Value.int IntKind.i64 z)) (by rw [runF_step he7]; rfl)))) rfl rfl ?_
    refine W.op (v := .int .i64 ((runF (l.take (i + 1))).2.2)) (fr1 := ⟨[_, _, _, _, _, _, _, .int .i64 ((runF (l.take (i + 1))).2.2), _, _, _, _, _, _, _, _, _, _, _, _, _, _, _, _, _, _, _, _, _, _, _, _, _, _, _, _, _, _, _, _, _, _, _, _, _], []⟩) rfl rfl rfl rfl ?_
    refine EndsOps.nil ?_
    refine Ends.region ?_
    refine W.op (v := .int .i64 ((i + 1 : Nat) : Int)) (fr1 := ⟨[_, _, _, _, _, _, _, _, _, _, _, _, _, _, _, _, _, _, _, _, _, _, _, _, _, _, _, _, _, _, _, _, _, _, _, _, _, .int .i64 ((i + 1 : Nat) : Int), _, _, _, _, _, _, _], []⟩) rfl (p_bin (addI (by omega) (by omega) (by omega))) rfl rfl ?_
    refine W.op (v := .int .i64 ((i + 1 : Nat) : Int)) (fr1 := ⟨[_, _, _, _, _, _, _, _, _, _, _, _, .int .i64 ((i + 1 : Nat) : Int), _, _, _, _, _, _, _, _, _, _, _, _, _, _, _, _, _, _, _, _, _, _, _, _, _, _, _, _, _, _, _, _], []⟩) rfl rfl rfl rfl ?_
    refine EndsOps.nil ?_
    exact ⟨_, (by omega), i + 1, v34, _, _, _, _, _, _, _, _, _, _, _, _, _, _, _, _, _, _, _, _, _, _, _, _, _, _, rfl, hO36, rfl, (by rw [runF_step he7]; exact hol39), by omega⟩
  · skip
    refine W.op (v := .bool false) (fr1 := ⟨[_, _, _, _, _, _, _, _, _, _, _, _, _, .bool false, _, _, _, _, _, _, _, _, _, _, _, _, _, _, _, _, _, _, _, _, _, _, _, _, _, _, _, _, _, _, _], []⟩) rfl (p_bin (ltF h5)) rfl rfl ?_
    refine EndsOps.nil ?_
    refine Ends.seq ?_
    refine Ends.condF rfl ?_
    refine Ends.exit ?_
    refine W.outT rfl ?_
    refine Ends.seq ?_
    refine Ends.region ?_
    refine W.op (v := v) (fr1 := ⟨[_, _, _, _, _, _, _, _, _, _, _, _, _, _, _, _, _, _, _, _, _, _, _, _, _, _, _, _, _, _, _, _, _, _, _, _, _, _, v, _, _, _, _, _, _], []⟩) rfl rfl rfl rfl ?_
    refine W.op (v := .int .i64 ((runF (l.take i)).2.1)) (fr1 := ⟨[_, _, _, _, _, _, _, _, _, _, _, _, _, _, _, _, _, _, _, _, _, _, _, _, _, _, _, _, _, _, _, _, _, _, _, _, _, _, _, .int .i64 ((runF (l.take i)).2.1), _, _, _, _, _], []⟩) rfl rfl rfl rfl ?_
    refine W.op (v := .int .i64 n) (fr1 := ⟨[_, _, _, _, _, _, _, _, _, _, _, _, _, _, _, _, _, _, _, _, _, _, _, _, _, _, _, _, _, _, _, _, _, _, _, _, _, _, _, _, .int .i64 n, _, _, _, _], []⟩) rfl rfl rfl rfl ?_
    refine W.op (v := .int .i64 ((runF (l.take i)).2.2)) (fr1 := ⟨[_, _, _, _, _, _, _, _, _, _, _, _, _, _, _, _, _, _, _, _, _, _, _, _, _, _, _, _, _, _, _, _, _, _, _, _, _, _, _, _, _, .int .i64 ((runF (l.take i)).2.2), _, _, _], []⟩) rfl rfl rfl rfl ?_
    refine W.op (v := .agg ⟨[.int .i64 ((runF (l.take i)).2.1), .int .i64 n, .int .i64 ((runF (l.take i)).2.2)]⟩) (fr1 := ⟨[_, _, _, _, _, _, _, _, _, _, _, _, _, _, _, _, _, _, _, _, _, _, _, _, _, _, _, _, _, _, _, _, _, _, _, _, _, _, _, _, _, _, .agg ⟨[.int .i64 ((runF (l.take i)).2.1), .int .i64 n, .int .i64 ((runF (l.take i)).2.2)]⟩, _, _], []⟩) rfl rfl rfl rfl ?_
    obtain ⟨N42, hN43⟩ : ∃ N, N = s1.next := ⟨_, rfl⟩
    have hb44 : s1.next ≤ N42 := hN43 ▸ (Own.refl s1).next
    refine W.newS (N := N42) (vs := [.int .i64 ((runF (l.take i)).2.1), .int .i64 n, .int .i64 ((runF (l.take i)).2.2)]) (fr1 := ⟨[_, _, _, _, _, _, _, _, _, _, _, _, _, _, _, _, _, _, _, _, _, _, _, _, _, _, _, _, _, _, _, _, _, _, _, _, _, _, _, _, _, _, _, .slice (some ⟨N42, 0, none⟩) 1 1, _], []⟩) hO2 hN43 rfl (p_bs rfl rfl zero101 rfl (by decide) rfl rfl) rfl rfl ?_
    intro s45 hO46 hS47 r48 hB49
    have hE50 := (Own.refl s1).trans hS47
    refine W.append (c := Run.cells) (l := ((runF (l.take i)).1)) (x := ⟨(runF (l.take i)).2.1, n, (runF (l.take i)).2.2⟩) (fF := fun v51 => ⟨[_, _, _, _, _, _, _, _, _, _, _, _, _, _, _, _, _, _, _, _, _, _, _, _, _, _, _, _, _, _, _, _, _, _, _, _, _, _, _, _, _, _, _, _, v51], []⟩) app98 (fun _ => rfl) (by exact Run.one) hO46 hE50 hol4 r48 rfl rfl rfl rfl (by omega) (by omega) (fun _ => rfl) ?_
    intro v51 s52 hO53 hnx54 hu55 hol56
    have r57 : Row s52.t s52.next _ _ _ _ := ⟨(hu55 _ hb44 r48.lt).trans r48.get, Nat.lt_of_lt_of_le r48.lt hnx54⟩
    refine W.op (v := v51) (fr1 := ⟨[_, _, _, _, v51, _, _, _, _, _, _, _, _, _, _, _, _, _, _, _, _, _, _, _, _, _, _, _, _, _, _, _, _, _, _, _, _, _, _, _, _, _, _, _, _], []⟩) rfl rfl rfl rfl ?_
    refine EndsOps.nil ?_
    refine Ends.ret ?_
    exact ⟨rfl, rfl, hO53, (by have ge : i = l.length := (by omega); subst ge; have h := hol56; simpa [runsS, valOf] using h)⟩

theorem c17T (al : Option Addr) (l : List Ed) (cl Nl ol : Nat) (vl : List Value) (yl zl : Nat) (n q : Int) (hB : l.length ≤ 1000) (hR : Right l n) (s : St) (Hl : Sl Ed.cells 3 s.t s.next al l Nl ol vl yl zl)  : EndsPure R1.T 17 [.slice al l.length cl, .int .i64 n, .int .i64 q] s (fun v _ _ => v = .tuple ⟨[.int .i64 (goS l n q).1, errV (goS l n q).2]⟩) := by
  refine EndsPure.of (rs := [6, 7]) (fr0 := ⟨[.slice al l.length cl, .int .i64 n, .int .i64 q, undef, undef, undef, undef, undef, undef, undef, undef, undef, undef, undef, undef, undef, undef, undef, undef, undef, undef, undef, undef, undef, undef, undef, undef, undef, undef, undef, undef, undef, undef, undef, undef, undef, undef, undef, undef], []⟩) (by kernel_rfl : R1.T.fn 17 = some ⟨39, (Try.f17.body).getD .skip, [.tmp 6, .tmp 7]⟩) rfl ?_
  have hO0 := Own.refl s
  have Ml := Hl.small
  simp only [Try.f17, Option.getD]
  refine Ends.seq ?_
  refine Ends.region ?_
  refine W.op (v := .int .i64 0) (fr1 := ⟨[_, _, _, _, _, _, .int .i64 0, _, _, _, _, _, _, _, _, _, _, _, _, _, _, _, _, _, _, _, _, _, _, _, _, _, _, _, _, _, _, _, _], []⟩) rfl rfl rfl rfl ?_
  refine W.op (v := .nilIface) (fr1 := ⟨[_, _, _, _, _, _, _, .nilIface, _, _, _, _, _, _, _, _, _, _, _, _, _, _, _, _, _, _, _, _, _, _, _, _, _, _, _, _, _, _, _], []⟩) rfl rfl rfl rfl ?_
  refine EndsOps.nil ?_
  refine Ends.seq ?_
  refine Ends.seq ?_
  refine Ends.region ?_
  refine W.op (v := .slice al l.length cl) (fr1 := ⟨[_, _, _, _, _, _, _, _, _, _, .slice al l.length cl, _, _, _, _, _, _, _, _, _, _, _, _, _, _, _, _, _, _, _, _, _, _, _, _, _, _, _, _], []⟩) rfl rfl rfl rfl ?_
  refine W.op (v := .int .i64 n) (fr1 := ⟨[_, _, _, _, _, _, _, _, _, _, _, .int .i64 n, _, _, _, _, _, _, _, _, _, _, _, _, _, _, _, _, _, _, _, _, _, _, _, _, _, _, _], []⟩) rfl rfl rfl rfl ?_
  refine W.call (ar := [.slice al l.length cl, .int .i64 n]) (X := .bool true) (fr1 := ⟨[_, _, _, _, _, _, _, _, _, _, _, _, .bool true, _, _, _, _, _, _, _, _, _, _, _, _, _, _, _, _, _, _, _, _, _, _, _, _, _, _], []⟩) hO0 rfl rfl rfl rfl ((c35 _ _ _ _ _ _ _ _ n _ (Hl.own hO0)).mono fun v _ _ h => h.trans (congrArg Value.bool (decide_eq_true hR))) rfl ?_
  intro s1 hO2 hS3
  refine W.op (v := .bool false) (fr1 := ⟨[_, _, _, _, _, _, _, _, _, _, _, _, _, .bool false, _, _, _, _, _, _, _, _, _, _, _, _, _, _, _, _, _, _, _, _, _, _, _, _, _], []⟩) rfl rfl rfl rfl ?_
  refine EndsOps.nil ?_
  refine Ends.condF rfl ?_
  refine Ends.skip ?_
  refine Ends.seq ?_
  refine Ends.seq ?_
  refine Ends.region ?_
  refine W.op (v := .slice al l.length cl) (fr1 := ⟨[_, _, _, _, _, _, _, _, _, _, _, _, _, _, _, .slice al l.length cl, _, _, _, _, _, _, _, _, _, _, _, _, _, _, _, _, _, _, _, _, _, _, _], []⟩) rfl rfl rfl rfl ?_
  refine W.op (v := .int .i64 n) (fr1 := ⟨[_, _, _, _, _, _, _, _, _, _, _, _, _, _, _, _, .int .i64 n, _, _, _, _, _, _, _, _, _, _, _, _, _, _, _, _, _, _, _, _, _, _], []⟩) rfl rfl rfl rfl ?_
  refine W.callE (ar := [.slice al l.length cl, .int .i64 n]) (fF := fun v4 => ⟨[_, _, _, _, _, _, _, _, _, _, _, _, _, _, _, _, _, v4, _, _, _, _, _, _, _, _, _, _, _, _, _, _, _, _, _, _, _, _, _], []⟩) hO2 rfl rfl rfl rfl (c65 _ _ _ _ _ _ _ _ n hB _ (Hl.own hO2)) (fun _ => rfl) ?_
  intro v4 s5 hR8 hO6 hS7
  obtain ⟨a9, c10, N11, v12, y13, z14, rfl, H15, lo16, C17⟩ := hR8.sl (fun _ => rfl)
  have sm_a9 := H15.small
  refine W.op (v := .int .i64 (((runsS l n).length : Nat) : Int)) (fr1 := ⟨[_, _, _, _, _, _, _, _, _, _, _, _, _, _, _, _, _, _, .int .i64 (((runsS l n).length : Nat) : Int), _, _, _, _, _, _, _, _, _, _, _, _, _, _, _, _, _, _, _, _], []⟩) rfl rfl rfl rfl ?_
  refine W.op (v := .int .i64 0) (fr1 := ⟨[_, _, _, _, _, _, _, _, _, _, _, _, _, _, _, _, _, _, _, .int .i64 0, _, _, _, _, _, _, _, _, _, _, _, _, _, _, _, _, _, _, _], []⟩) rfl rfl rfl rfl ?_
  refine EndsOps.nil ?_
  refine W.block ?_
  refine Ends.loopInv (fun d fr s1 => ∃ (i : Nat) (j6 j7 j9 j20 j21 j22 j23 j24 j25 j26 j27 j28 j29 j30 j31 j32 j33 j34 j35 j36 j37 : Value), fr = ⟨[.slice al l.length cl, .int .i64 n, .int .i64 q, undef, undef, undef, j6, j7, undef, j9, .slice al l.length cl, .int .i64 n, .bool true, .bool false, undef, .slice al l.length cl, .int .i64 n, .slice a9 ((runsS l n).length) c10, .int .i64 (((runsS l n).length : Nat) : Int), .int .i64 ((i : Nat) : Int), j20, j21, j22, j23, j24, j25, j26, j27, j28, j29, j30, j31, j32, j33, j34, j35, j36, j37, undef], []⟩ ∧ Own s s1 ∧ d = (runsS l n).length - i ∧ Own s5 s1 ∧ (i ≤ (runsS l n).length) ∧ (NoB (InR q) (runsS l n) i)) ?_ _ _ _ ⟨0, _, _, _, _, _, _, _, _, _, _, _, _, _, _, _, _, _, _, _, _, _, rfl, hO6, rfl, (Own.refl s5), Nat.zero_le _, NoB.zero⟩
  rintro d _ s18 ⟨i, j6, j7, j9, j20, j21, j22, j23, j24, j25, j26, j27, j28, j29, j30, j31, j32, j33, j34, j35, j36, j37, rfl, hO19, hd20, hE21, hi, hn⟩
  have hln := runsS_len l n
  refine Ends.seq ?_
  refine Ends.region ?_
  by_cases h22 : ((i : Nat) : Int) < (((runsS l n).length : Nat) : Int)
  · skip
    refine W.op (v := .bool true) (fr1 := ⟨[_, _, _, _, _, _, _, _, _, _, _, _, _, _, _, _, _, _, _, _, .bool true, _, _, _, _, _, _, _, _, _, _, _, _, _, _, _, _, _, _], []⟩) rfl (p_bin (ltT h22)) rfl rfl ?_
    refine EndsOps.nil ?_
    refine Ends.seq ?_
    refine Ends.condT rfl ?_
    refine Ends.skip ?_
    refine Ends.seq ?_
    refine W.block ?_
    refine Ends.seq ?_
    refine Ends.region ?_
    obtain ⟨e23, he24⟩ := ex_at (l := (runsS l n)) (i := i) (by omega)
    refine W.op (v := .pointer (some ⟨N11, 0 + i * 3, none⟩)) (fr1 := ⟨[_, _, _, _, _, _, _, _, _, _, _, _, _, _, _, _, _, _, _, _, _, .pointer (some ⟨N11, 0 + i * 3, none⟩), _, _, _, _, _, _, _, _, _, _, _, _, _, _, _, _, _], []⟩) rfl (p_ix (Sl.ix H15 rfl rfl he24 _)) rfl rfl ?_
    refine W.op (v := .agg ⟨[.int .i64 e23.fr, .int .i64 e23.to, .int .i64 e23.by']⟩) (fr1 := ⟨[_, _, _, _, _, _, _, _, _, _, _, _, _, _, _, _, _, _, _, _, _, _, .agg ⟨[.int .i64 e23.fr, .int .i64 e23.to, .int .i64 e23.by']⟩, _, _, _, _, _, _, _, _, _, _, _, _, _, _, _, _], []⟩) rfl (p_loadA (Sl.row' (H15.own hE21) he24) rfl rfl rfl rfl ((H15.own hE21).get _ _ he24)) rfl rfl ?_
    obtain ⟨N25, hN26⟩ : ∃ N, N = s18.next := ⟨_, rfl⟩
    have hb27 : s5.next ≤ N25 := hN26 ▸ hE21.next
    refine W.new (N := N25) (vs := [.int .i64 0, .int .i64 0, .int .i64 0]) (fr1 := ⟨[_, _, _, _, _, _, _, _, _, .pointer (some ⟨N25, 0, none⟩), _, _, _, _, _, _, _, _, _, _, _, _, _, _, _, _, _, _, _, _, _, _, _, _, _, _, _, _, _], []⟩) hO19 hN26 rfl (p_alloc zero101 rfl) rfl rfl ?_
    intro s28 hO29 hS30 r31 hB32
    have hE33 := hE21.trans hS30
    refine W.store2 (cs := [.int .i64 e23.fr, .int .i64 e23.to, .int .i64 e23.by']) (vs' := [.int .i64 e23.fr, .int .i64 e23.to, .int .i64 e23.by']) (fr1 := ⟨[_, _, _, _, _, _, _, _, _, _, _, _, _, _, _, _, _, _, _, _, _, _, _, _, _, _, _, _, _, _, _, _, _, _, _, _, _, _, _], []⟩) hO29 r31 hB32 rfl rfl rfl rfl (by kernel_rfl) (by simp) (by simp [END, oneCell]) rfl rfl ?_
    intro s34 hO35 hn36 hu37 r38 hX39
    have hE40 := hX39 s5 hE33 hb27
    refine EndsOps.nil ?_
    refine Ends.seq ?_
    refine Ends.region ?_
    refine W.op (v := .int .i64 q) (fr1 := ⟨[_, _, _, _, _, _, _, _, _, _, _, _, _, _, _, _, _, _, _, _, _, _, _, .int .i64 q, _, _, _, _, _, _, _, _, _, _, _, _, _, _, _], []⟩) rfl rfl rfl rfl ?_
    refine W.op (v := .pointer (some ⟨N25, 0, none⟩)) (fr1 := ⟨[_, _, _, _, _, _, _, _, _, _, _, _, _, _, _, _, _, _, _, _, _, _, _, _, .pointer (some ⟨N25, 0, none⟩), _, _, _, _, _, _, _, _, _, _, _, _, _, _], []⟩) rfl rfl rfl rfl ?_
    refine W.op (v := .int .i64 e23.fr) (fr1 := ⟨[_, _, _, _, _, _, _, _, _, _, _, _, _, _, _, _, _, _, _, _, _, _, _, _, _, .int .i64 e23.fr, _, _, _, _, _, _, _, _, _, _, _, _, _], []⟩) rfl (p_load1 r38 rfl rfl rfl rfl) rfl rfl ?_
    by_cases h41 : e23.fr ≤ q
    · skip
      refine W.op (v := .bool true) (fr1 := ⟨[_, _, _, _, _, _, _, _, _, _, _, _, _, _, _, _, _, _, _, _, _, _, _, _, _, _, .bool true, _, _, _, _, _, _, _, _, _, _, _, _], []⟩) rfl (p_bin (geT h41)) rfl rfl ?_
      refine W.op (v := .bool true) (fr1 := ⟨[_, _, _, _, _, _, _, _, _, _, _, _, _, _, _, _, _, _, _, _, _, _, _, _, _, _, _, .bool true, _, _, _, _, _, _, _, _, _, _, _], []⟩) rfl rfl rfl rfl ?_
      refine W.op (v := .int .i64 q) (fr1 := ⟨[_, _, _, _, _, _, _, _, _, _, _, _, _, _, _, _, _, _, _, _, _, _, _, _, _, _, _, _, .int .i64 q, _, _, _, _, _, _, _, _, _, _], []⟩) rfl rfl rfl rfl ?_
      refine W.op (v := .pointer (some ⟨N25, 1, none⟩)) (fr1 := ⟨[_, _, _, _, _, _, _, _, _, _, _, _, _, _, _, _, _, _, _, _, _, _, _, _, _, _, _, _, _, .pointer (some ⟨N25, 1, none⟩), _, _, _, _, _, _, _, _, _], []⟩) rfl rfl rfl rfl ?_
      refine W.op (v := .int .i64 e23.to) (fr1 := ⟨[_, _, _, _, _, _, _, _, _, _, _, _, _, _, _, _, _, _, _, _, _, _, _, _, _, _, _, _, _, _, .int .i64 e23.to, _, _, _, _, _, _, _, _], []⟩) rfl (p_load1 r38 rfl rfl rfl rfl) rfl rfl ?_
      by_cases h42 : q < e23.to
      · skip
        refine W.op (v := .bool true) (fr1 := ⟨[_, _, _, _, _, _, _, _, _, _, _, _, _, _, _, _, _, _, _, _, _, _, _, _, _, _, _, _, _, _, _, .bool true, _, _, _, _, _, _, _], []⟩) rfl (p_bin (ltT h42)) rfl rfl ?_
        refine W.op (v := .bool true) (fr1 := ⟨[_, _, _, _, _, _, _, _, _, _, _, _, _, _, _, _, _, _, _, _, _, _, _, _, _, _, _, _, _, _, _, _, .bool true, _, _, _, _, _, _], []⟩) rfl rfl rfl rfl ?_
        refine EndsOps.nil ?_
        refine Ends.condT rfl ?_
        refine Ends.seq ?_
        refine Ends.region ?_
        refine W.op (v := .int .i64 q) (fr1 := ⟨[_, _, _, _, _, _, _, _, _, _, _, _, _, _, _, _, _, _, _, _, _, _, _, _, _, _, _, _, _, _, _, _, _, .int .i64 q, _, _, _, _, _], []⟩) rfl rfl rfl rfl ?_
        refine W.op (v := .pointer (some ⟨N25, 2, none⟩)) (fr1 := ⟨[_, _, _, _, _, _, _, _, _, _, _, _, _, _, _, _, _, _, _, _, _, _, _, _, _, _, _, _, _, _, _, _, _, _, .pointer (some ⟨N25, 2, none⟩), _, _, _, _], []⟩) rfl rfl rfl rfl ?_
        refine W.op (v := .int .i64 e23.by') (fr1 := ⟨[_, _, _, _, _, _, _, _, _, _, _, _, _, _, _, _, _, _, _, _, _, _, _, _, _, _, _, _, _, _, _, _, _, _, _, .int .i64 e23.by', _, _, _], []⟩) rfl (p_load1 r38 rfl rfl rfl rfl) rfl rfl ?_
        refine W.op (v := .int .i64 (W (q + e23.by'))) (fr1 := ⟨[_, _, _, _, _, _, _, _, _, _, _, _, _, _, _, _, _, _, _, _, _, _, _, _, _, _, _, _, _, _, _, _, _, _, _, _, .int .i64 (W (q + e23.by')), _, _], []⟩) rfl (p_bin addW) rfl rfl ?_
        refine W.op (v := .int .i64 (W (q + e23.by'))) (fr1 := ⟨[_, _, _, _, _, _, .int .i64 (W (q + e23.by')), _, _, _, _, _, _, _, _, _, _, _, _, _, _, _, _, _, _, _, _, _, _, _, _, _, _, _, _, _, _, _, _], []⟩) rfl rfl rfl rfl ?_
        refine W.op (v := .nilIface) (fr1 := ⟨[_, _, _, _, _, _, _, .nilIface, _, _, _, _, _, _, _, _, _, _, _, _, _, _, _, _, _, _, _, _, _, _, _, _, _, _, _, _, _, _, _], []⟩) rfl rfl rfl rfl ?_
        refine EndsOps.nil ?_
        refine Ends.ret ?_
        exact ⟨rfl, rfl, hO35, by
          show Value.tuple ⟨[.int .i64 (W (q + e23.by')), .nilIface]⟩ = Value.tuple ⟨[.int .i64 (goS l n q).1, errV (goS l n q).2]⟩
          rw [goS_at hn he24 ⟨h41, h42⟩]; rfl⟩
      · skip
        refine W.op (v := .bool false) (fr1 := ⟨[_, _, _, _, _, _, _, _, _, _, _, _, _, _, _, _, _, _, _, _, _, _, _, _, _, _, _, _, _, _, _, .bool false, _, _, _, _, _, _, _], []⟩) rfl (p_bin (ltF h42)) rfl rfl ?_
        refine W.op (v := .bool false) (fr1 := ⟨[_, _, _, _, _, _, _, _, _, _, _, _, _, _, _, _, _, _, _, _, _, _, _, _, _, _, _, _, _, _, _, _, .bool false, _, _, _, _, _, _], []⟩) rfl rfl rfl rfl ?_
        refine EndsOps.nil ?_
        refine Ends.condF rfl ?_
        refine Ends.skip ?_
        refine Ends.region ?_
        refine W.op (v := .int .i64 ((i + 1 : Nat) : Int)) (fr1 := ⟨[_, _, _, _, _, _, _, _, _, _, _, _, _, _, _, _, _, _, _, _, _, _, _, _, _, _, _, _, _, _, _, _, _, _, _, _, _, .int .i64 ((i + 1 : Nat) : Int), _], []⟩) rfl (p_bin (addI (by omega) (by omega) (by omega))) rfl rfl ?_
        refine W.op (v := .int .i64 ((i + 1 : Nat) : Int)) (fr1 := ⟨[_, _, _, _, _, _, _, _, _, _, _, _, _, _, _, _, _, _, _, .int .i64 ((i + 1 : Nat) : Int), _, _, _, _, _, _, _, _, _, _, _, _, _, _, _, _, _, _, _], []⟩) rfl rfl rfl rfl ?_
        refine EndsOps.nil ?_
        exact ⟨_, (by omega), i + 1, _, _, _, _, _, _, _, _, _, _, _, _, _, _, _, _, _, _, _, _, _, rfl, hO35, rfl, hE40, by omega, NoB.step hn he24 (fun h => h42 h.2)⟩
    · skip
      refine W.op (v := .bool false) (fr1 := ⟨[_, _, _, _, _, _, _, _, _, _, _, _, _, _, _, _, _, _, _, _, _, _, _, _, _, _, .bool false, _, _, _, _, _, _, _, _, _, _, _, _], []⟩) rfl (p_bin (geF h41)) rfl rfl ?_
      refine W.op (v := .bool false) (fr1 := ⟨[_, _, _, _, _, _, _, _, _, _, _, _, _, _, _, _, _, _, _, _, _, _, _, _, _, _, _, .bool false, _, _, _, _, _, _, _, _, _, _, _], []⟩) rfl rfl rfl rfl ?_
      refine W.skip (fr1 := ⟨[_, _, _, _, _, _, _, _, _, _, _, _, _, _, _, _, _, _, _, _, _, _, _, _, _, _, _, _, undef, _, _, _, _, _, _, _, _, _, _], []⟩) rfl rfl ?_
      refine W.skip (fr1 := ⟨[_, _, _, _, _, _, _, _, _, _, _, _, _, _, _, _, _, _, _, _, _, _, _, _, _, _, _, _, _, undef, _, _, _, _, _, _, _, _, _], []⟩) rfl rfl ?_
      refine W.skip (fr1 := ⟨[_, _, _, _, _, _, _, _, _, _, _, _, _, _, _, _, _, _, _, _, _, _, _, _, _, _, _, _, _, _, undef, _, _, _, _, _, _, _, _], []⟩) rfl rfl ?_
      refine W.skip (fr1 := ⟨[_, _, _, _, _, _, _, _, _, _, _, _, _, _, _, _, _, _, _, _, _, _, _, _, _, _, _, _, _, _, _, undef, _, _, _, _, _, _, _], []⟩) rfl rfl ?_
      refine W.op (v := .bool false) (fr1 := ⟨[_, _, _, _, _, _, _, _, _, _, _, _, _, _, _, _, _, _, _, _, _, _, _, _, _, _, _, _, _, _, _, _, .bool false, _, _, _, _, _, _], []⟩) rfl rfl rfl rfl ?_
      refine EndsOps.nil ?_
      refine Ends.condF rfl ?_
      refine Ends.skip ?_
      refine Ends.region ?_
      refine W.op (v := .int .i64 ((i + 1 : Nat) : Int)) (fr1 := ⟨[_, _, _, _, _, _, _, _, _, _, _, _, _, _, _, _, _, _, _, _, _, _, _, _, _, _, _, _, _, _, _, _, _, _, _, _, _, .int .i64 ((i + 1 : Nat) : Int), _], []⟩) rfl (p_bin (addI (by omega) (by omega) (by omega))) rfl rfl ?_
      refine W.op (v := .int .i64 ((i + 1 : Nat) : Int)) (fr1 := ⟨[_, _, _, _, _, _, _, _, _, _, _, _, _, _, _, _, _, _, _, .int .i64 ((i + 1 : Nat) : Int), _, _, _, _, _, _, _, _, _, _, _, _, _, _, _, _, _, _, _], []⟩) rfl rfl rfl rfl ?_
      refine EndsOps.nil ?_
      exact ⟨_, (by omega), i + 1, _, _, _, _, _, _, _, _, _, _, _, _, _, _, _, _, _, _, _, _, _, rfl, hO35, rfl, hE40, by omega, NoB.step hn he24 (fun h => h41 h.1)⟩
  · skip
    refine W.op (v := .bool false) (fr1 := ⟨[_, _, _, _, _, _, _, _, _, _, _, _, _, _, _, _, _, _, _, _, .bool false, _, _, _, _, _, _, _, _, _, _, _, _, _, _, _, _, _, _], []⟩) rfl (p_bin (ltF h22)) rfl rfl ?_
    refine EndsOps.nil ?_
    refine Ends.seq ?_
    refine Ends.condF rfl ?_
    refine Ends.exit ?_
    refine W.outT rfl ?_
    refine Ends.seq ?_
    refine Ends.region ?_
    refine W.op (v := .iface 37 (.int .i64 5)) (fr1 := ⟨[_, _, _, _, _, _, _, _, _, _, _, _, _, _, _, _, _, _, _, _, _, _, _, _, _, _, _, _, _, _, _, _, _, _, _, _, _, _, .iface 37 (.int .i64 5)], []⟩) rfl rfl rfl rfl ?_
    refine W.op (v := .int .i64 0) (fr1 := ⟨[_, _, _, _, _, _, .int .i64 0, _, _, _, _, _, _, _, _, _, _, _, _, _, _, _, _, _, _, _, _, _, _, _, _, _, _, _, _, _, _, _, _], []⟩) rfl rfl rfl rfl ?_
    refine W.op (v := .iface 37 (.int .i64 5)) (fr1 := ⟨[_, _, _, _, _, _, _, .iface 37 (.int .i64 5), _, _, _, _, _, _, _, _, _, _, _, _, _, _, _, _, _, _, _, _, _, _, _, _, _, _, _, _, _, _, _], []⟩) rfl rfl rfl rfl ?_
    refine EndsOps.nil ?_
    refine Ends.ret ?_
    exact ⟨rfl, rfl, hO19, by
      show Value.tuple ⟨[.int .i64 0, .iface 37 (.int .i64 5)]⟩ = Value.tuple ⟨[.int .i64 (goS l n q).1, errV (goS l n q).2]⟩
      rw [goS_none hn (by omega)]; rfl⟩

theorem c17F (al : Option Addr) (l : List Ed) (cl Nl ol : Nat) (vl : List Value) (yl zl : Nat) (n q : Int) (hR : ¬ Right l n) (s : St) (Hl : Sl Ed.cells 3 s.t s.next al l Nl ol vl yl zl)  : EndsPure R1.T 17 [.slice al l.length cl, .int .i64 n, .int .i64 q] s (fun v _ _ => v = .tuple ⟨[.int .i64 0, .iface 37 (.int .i64 2)]⟩) := by
  refine EndsPure.of (rs := [6, 7]) (fr0 := ⟨[.slice al l.length cl, .int .i64 n, .int .i64 q, undef, undef, undef, undef, undef, undef, undef, undef, undef, undef, undef, undef, undef, undef, undef, undef, undef, undef, undef, undef, undef, undef, undef, undef, undef, undef, undef, undef, undef, undef, undef, undef, undef, undef, undef, undef], []⟩) (by kernel_rfl : R1.T.fn 17 = some ⟨39, (Try.f17.body).getD .skip, [.tmp 6, .tmp 7]⟩) rfl ?_
  have hO0 := Own.refl s
  have Ml := Hl.small
  simp only [Try.f17, Option.getD]
  refine Ends.seq ?_
  refine Ends.region ?_
  refine W.op (v := .int .i64 0) (fr1 := ⟨[_, _, _, _, _, _, .int .i64 0, _, _, _, _, _, _, _, _, _, _, _, _, _, _, _, _, _, _, _, _, _, _, _, _, _, _, _, _, _, _, _, _], []⟩) rfl rfl rfl rfl ?_
  refine W.op (v := .nilIface) (fr1 := ⟨[_, _, _, _, _, _, _, .nilIface, _, _, _, _, _, _, _, _, _, _, _, _, _, _, _, _, _, _, _, _, _, _, _, _, _, _, _, _, _, _, _], []⟩) rfl rfl rfl rfl ?_
  refine EndsOps.nil ?_
  refine Ends.seq ?_
  refine Ends.seq ?_
  refine Ends.region ?_
  refine W.op (v := .slice al l.length cl) (fr1 := ⟨[_, _, _, _, _, _, _, _, _, _, .slice al l.length cl, _, _, _, _, _, _, _, _, _, _, _, _, _, _, _, _, _, _, _, _, _, _, _, _, _, _, _, _], []⟩) rfl rfl rfl rfl ?_
  refine W.op (v := .int .i64 n) (fr1 := ⟨[_, _, _, _, _, _, _, _, _, _, _, .int .i64 n, _, _, _, _, _, _, _, _, _, _, _, _, _, _, _, _, _, _, _, _, _, _, _, _, _, _, _], []⟩) rfl rfl rfl rfl ?_
  refine W.call (ar := [.slice al l.length cl, .int .i64 n]) (X := .bool false) (fr1 := ⟨[_, _, _, _, _, _, _, _, _, _, _, _, .bool false, _, _, _, _, _, _, _, _, _, _, _, _, _, _, _, _, _, _, _, _, _, _, _, _, _, _], []⟩) hO0 rfl rfl rfl rfl ((c35 _ _ _ _ _ _ _ _ n _ (Hl.own hO0)).mono fun v _ _ h => h.trans (congrArg Value.bool (decide_eq_false hR))) rfl ?_
  intro s1 hO2 hS3
  refine W.op (v := .bool true) (fr1 := ⟨[_, _, _, _, _, _, _, _, _, _, _, _, _, .bool true, _, _, _, _, _, _, _, _, _, _, _, _, _, _, _, _, _, _, _, _, _, _, _, _, _], []⟩) rfl rfl rfl rfl ?_
  refine EndsOps.nil ?_
  refine Ends.condT rfl ?_
  refine Ends.seq ?_
  refine Ends.region ?_
  refine W.op (v := .iface 37 (.int .i64 2)) (fr1 := ⟨[_, _, _, _, _, _, _, _, _, _, _, _, _, _, .iface 37 (.int .i64 2), _, _, _, _, _, _, _, _, _, _, _, _, _, _, _, _, _, _, _, _, _, _, _, _], []⟩) rfl rfl rfl rfl ?_
  refine W.op (v := .int .i64 0) (fr1 := ⟨[_, _, _, _, _, _, .int .i64 0, _, _, _, _, _, _, _, _, _, _, _, _, _, _, _, _, _, _, _, _, _, _, _, _, _, _, _, _, _, _, _, _], []⟩) rfl rfl rfl rfl ?_
  refine W.op (v := .iface 37 (.int .i64 2)) (fr1 := ⟨[_, _, _, _, _, _, _, .iface 37 (.int .i64 2), _, _, _, _, _, _, _, _, _, _, _, _, _, _, _, _, _, _, _, _, _, _, _, _, _, _, _, _, _, _, _], []⟩) rfl rfl rfl rfl ?_
  refine EndsOps.nil ?_
  refine Ends.ret ?_
  exact ⟨rfl, rfl, hO2, by
    show Value.tuple ⟨[.int .i64 0, .iface 37 (.int .i64 2)]⟩ = Value.tuple ⟨[.int .i64 0, .iface 37 (.int .i64 2)]⟩
    rfl⟩

theorem c18T (al : Option Addr) (l : List Ed) (cl Nl ol : Nat) (vl : List Value) (yl zl : Nat) (n q : Int) (hB : l.length ≤ 1000) (hR : Right l n) (s : St) (Hl : Sl Ed.cells 3 s.t s.next al l Nl ol vl yl zl)  : EndsPure R1.T 18 [.slice al l.length cl, .int .i64 n, .int .i64 q] s (fun v _ _ => v = .tuple ⟨[.int .i64 (caS l n q).1, errV (caS l n q).2]⟩) := by
  refine EndsPure.of (rs := [6, 7]) (fr0 := ⟨[.slice al l.length cl, .int .i64 n, .int .i64 q, undef, undef, undef, undef, undef, undef, undef, undef, undef, undef, undef, undef, undef, undef, undef, undef, undef, undef, undef, undef, undef, undef, undef, undef, undef, undef, undef, undef, undef, undef, undef, undef, undef, undef, undef, undef, undef, undef, undef, undef, undef, undef], []⟩) (by kernel_rfl : R1.T.fn 18 = some ⟨45, (Try.f18.body).getD .skip, [.tmp 6, .tmp 7]⟩) rfl ?_
  have hO0 := Own.refl s
  have Ml := Hl.small
  simp only [Try.f18, Option.getD]
  refine Ends.seq ?_
  refine Ends.region ?_
  refine W.op (v := .int .i64 0) (fr1 := ⟨[_, _, _, _, _, _, .int .i64 0, _, _, _, _, _, _, _, _, _, _, _, _, _, _, _, _, _, _, _, _, _, _, _, _, _, _, _, _, _, _, _, _, _, _, _, _, _, _], []⟩) rfl rfl rfl rfl ?_
  refine W.op (v := .nilIface) (fr1 := ⟨[_, _, _, _, _, _, _, .nilIface, _, _, _, _, _, _, _, _, _, _, _, _, _, _, _, _, _, _, _, _, _, _, _, _, _, _, _, _, _, _, _, _, _, _, _, _, _], []⟩) rfl rfl rfl rfl ?_
  refine EndsOps.nil ?_
  refine Ends.seq ?_
  refine Ends.seq ?_
  refine Ends.region ?_
  refine W.op (v := .slice al l.length cl) (fr1 := ⟨[_, _, _, _, _, _, _, _, _, _, .slice al l.length cl, _, _, _, _, _, _, _, _, _, _, _, _, _, _, _, _, _, _, _, _, _, _, _, _, _, _, _, _, _, _, _, _, _, _], []⟩) rfl rfl rfl rfl ?_
  refine W.op (v := .int .i64 n) (fr1 := ⟨[_, _, _, _, _, _, _, _, _, _, _, .int .i64 n, _, _, _, _, _, _, _, _, _, _, _, _, _, _, _, _, _, _, _, _, _, _, _, _, _, _, _, _, _, _, _, _, _], []⟩) rfl rfl rfl rfl ?_
  refine W.call (ar := [.slice al l.length cl, .int .i64 n]) (X := .bool true) (fr1 := ⟨[_, _, _, _, _, _, _, _, _, _, _, _, .bool true, _, _, _, _, _, _, _, _, _, _, _, _, _, _, _, _, _, _, _, _, _, _, _, _, _, _, _, _, _, _, _, _], []⟩) hO0 rfl rfl rfl rfl ((c35 _ _ _ _ _ _ _ _ n _ (Hl.own hO0)).mono fun v _ _ h => h.trans (congrArg Value.bool (decide_eq_true hR))) rfl ?_
  intro s1 hO2 hS3
  refine W.op (v := .bool false) (fr1 := ⟨[_, _, _, _, _, _, _, _, _, _, _, _, _, .bool false, _, _, _, _, _, _, _, _, _, _, _, _, _, _, _, _, _, _, _, _, _, _, _, _, _, _, _, _, _, _, _], []⟩) rfl rfl rfl rfl ?_
  refine EndsOps.nil ?_
  refine Ends.condF rfl ?_
  refine Ends.skip ?_
  refine Ends.seq ?_
  refine Ends.seq ?_
  refine Ends.region ?_
  refine W.op (v := .slice al l.length cl) (fr1 := ⟨[_, _, _, _, _, _, _, _, _, _, _, _, _, _, _, .slice al l.length cl, _, _, _, _, _, _, _, _, _, _, _, _, _, _, _, _, _, _, _, _, _, _, _, _, _, _, _, _, _], []⟩) rfl rfl rfl rfl ?_
  refine W.op (v := .int .i64 n) (fr1 := ⟨[_, _, _, _, _, _, _, _, _, _, _, _, _, _, _, _, .int .i64 n, _, _, _, _, _, _, _, _, _, _, _, _, _, _, _, _, _, _, _, _, _, _, _, _, _, _, _, _], []⟩) rfl rfl rfl rfl ?_
  refine W.callE (ar := [.slice al l.length cl, .int .i64 n]) (fF := fun v4 => ⟨[_, _, _, _, _, _, _, _, _, _, _, _, _, _, _, _, _, v4, _, _, _, _, _, _, _, _, _, _, _, _, _, _, _, _, _, _, _, _, _, _, _, _, _, _, _], []⟩) hO2 rfl rfl rfl rfl (c65 _ _ _ _ _ _ _ _ n hB _ (Hl.own hO2)) (fun _ => rfl) ?_
  intro v4 s5 hR8 hO6 hS7
  obtain ⟨a9, c10, N11, v12, y13, z14, rfl, H15, lo16, C17⟩ := hR8.sl (fun _ => rfl)
  have sm_a9 := H15.small
  refine W.op (v := .int .i64 (((runsS l n).length : Nat) : Int)) (fr1 := ⟨[_, _, _, _, _, _, _, _, _, _, _, _, _, _, _, _, _, _, .int .i64 (((runsS l n).length : Nat) : Int), _, _, _, _, _, _, _, _, _, _, _, _, _, _, _, _, _, _, _, _, _, _, _, _, _, _], []⟩) rfl rfl rfl rfl ?_
  refine W.op (v := .int .i64 0) (fr1 := ⟨[_, _, _, _, _, _, _, _, _, _, _, _, _, _, _, _, _, _, _, .int .i64 0, _, _, _, _, _, _, _, _, _, _, _, _, _, _, _, _, _, _, _, _, _, _, _, _, _], []⟩) rfl rfl rfl rfl ?_
  refine EndsOps.nil ?_
  refine W.block ?_
  refine Ends.loopInv (fun d fr s1 => ∃ (i : Nat) (j6 j7 j9 j20 j21 j22 j23 j24 j25 j26 j27 j28 j29 j30 j31 j32 j33 j34 j35 j36 j37 j38 j39 j40 j41 j42 j43 : Value), fr = ⟨[.slice al l.length cl, .int .i64 n, .int .i64 q, undef, undef, undef, j6, j7, undef, j9, .slice al l.length cl, .int .i64 n, .bool true, .bool false, undef, .slice al l.length cl, .int .i64 n, .slice a9 ((runsS l n).length) c10, .int .i64 (((runsS l n).length : Nat) : Int), .int .i64 ((i : Nat) : Int), j20, j21, j22, j23, j24, j25, j26, j27, j28, j29, j30, j31, j32, j33, j34, j35, j36, j37, j38, j39, j40, j41, j42, j43, undef], []⟩ ∧ Own s s1 ∧ d = (runsS l n).length - i ∧ Own s5 s1 ∧ (i ≤ (runsS l n).length) ∧ (NoB (InC q) (runsS l n) i)) ?_ _ _ _ ⟨0, _, _, _, _, _, _, _, _, _, _, _, _, _, _, _, _, _, _, _, _, _, _, _, _, _, _, _, rfl, hO6, rfl, (Own.refl s5), Nat.zero_le _, NoB.zero⟩
  rintro d _ s18 ⟨i, j6, j7, j9, j20, j21, j22, j23, j24, j25, j26, j27, j28, j29, j30, j31, j32, j33, j34, j35, j36, j37, j38, j39, j40, j41, j42, j43, rfl, hO19, hd20, hE21, hi, hn⟩
  have hln := runsS_len l n
  refine Ends.seq ?_
  refine Ends.region ?_
  by_cases h22 : ((i : Nat) : Int) < (((runsS l n).length : Nat) : Int)
  · skip
    refine W.op (v := .bool true) (fr1 := ⟨[_, _, _, _, _, _, _, _, _, _, _, _, _, _, _, _, _, _, _, _, .bool true, _, _, _, _, _, _, _, _, _, _, _, _, _, _, _, _, _, _, _, _, _, _, _, _], []⟩) rfl (p_bin (ltT h22)) rfl rfl ?_
    refine EndsOps.nil ?_
    refine Ends.seq ?_
    refine Ends.condT rfl ?_
    refine Ends.skip ?_
    refine Ends.seq ?_
    refine W.block ?_
    refine Ends.seq ?_
    refine Ends.region ?_
    obtain ⟨e23, he24⟩ := ex_at (l := (runsS l n)) (i := i) (by omega)
    refine W.op (v := .pointer (some ⟨N11, 0 + i * 3, none⟩)) (fr1 := ⟨[_, _, _, _, _, _, _, _, _, _, _, _, _, _, _, _, _, _, _, _, _, .pointer (some ⟨N11, 0 + i * 3, none⟩), _, _, _, _, _, _, _, _, _, _, _, _, _, _, _, _, _, _, _, _, _, _, _], []⟩) rfl (p_ix (Sl.ix H15 rfl rfl he24 _)) rfl rfl ?_
    refine W.op (v := .agg ⟨[.int .i64 e23.fr, .int .i64 e23.to, .int .i64 e23.by']⟩) (fr1 := ⟨[_, _, _, _, _, _, _, _, _, _, _, _, _, _, _, _, _, _, _, _, _, _, .agg ⟨[.int .i64 e23.fr, .int .i64 e23.to, .int .i64 e23.by']⟩, _, _, _, _, _, _, _, _, _, _, _, _, _, _, _, _, _, _, _, _, _, _], []⟩) rfl (p_loadA (Sl.row' (H15.own hE21) he24) rfl rfl rfl rfl ((H15.own hE21).get _ _ he24)) rfl rfl ?_
    obtain ⟨N25, hN26⟩ : ∃ N, N = s18.next := ⟨_, rfl⟩
    have hb27 : s5.next ≤ N25 := hN26 ▸ hE21.next
    refine W.new (N := N25) (vs := [.int .i64 0, .int .i64 0, .int .i64 0]) (fr1 := ⟨[_, _, _, _, _, _, _, _, _, .pointer (some ⟨N25, 0, none⟩), _, _, _, _, _, _, _, _, _, _, _, _, _, _, _, _, _, _, _, _, _, _, _, _, _, _, _, _, _, _, _, _, _, _, _], []⟩) hO19 hN26 rfl (p_alloc zero101 rfl) rfl rfl ?_
    intro s28 hO29 hS30 r31 hB32
    have hE33 := hE21.trans hS30
    refine W.store2 (cs := [.int .i64 e23.fr, .int .i64 e23.to, .int .i64 e23.by']) (vs' := [.int .i64 e23.fr, .int .i64 e23.to, .int .i64 e23.by']) (fr1 := ⟨[_, _, _, _, _, _, _, _, _, _, _, _, _, _, _, _, _, _, _, _, _, _, _, _, _, _, _, _, _, _, _, _, _, _, _, _, _, _, _, _, _, _, _, _, _], []⟩) hO29 r31 hB32 rfl rfl rfl rfl (by kernel_rfl) (by simp) (by simp [END, oneCell]) rfl rfl ?_
    intro s34 hO35 hn36 hu37 r38 hX39
    have hE40 := hX39 s5 hE33 hb27
    refine EndsOps.nil ?_
    refine Ends.seq ?_
    refine Ends.region ?_
    refine W.op (v := .int .i64 q) (fr1 := ⟨[_, _, _, _, _, _, _, _, _, _, _, _, _, _, _, _, _, _, _, _, _, _, _, .int .i64 q, _, _, _, _, _, _, _, _, _, _, _, _, _, _, _, _, _, _, _, _, _], []⟩) rfl rfl rfl rfl ?_
    refine W.op (v := .pointer (some ⟨N25, 0, none⟩)) (fr1 := ⟨[_, _, _, _, _, _, _, _, _, _, _, _, _, _, _, _, _, _, _, _, _, _, _, _, .pointer (some ⟨N25, 0, none⟩), _, _, _, _, _, _, _, _, _, _, _, _, _, _, _, _, _, _, _, _], []⟩) rfl rfl rfl rfl ?_
    refine W.op (v := .int .i64 e23.fr) (fr1 := ⟨[_, _, _, _, _, _, _, _, _, _, _, _, _, _, _, _, _, _, _, _, _, _, _, _, _, .int .i64 e23.fr, _, _, _, _, _, _, _, _, _, _, _, _, _, _, _, _, _, _, _], []⟩) rfl (p_load1 r38 rfl rfl rfl rfl) rfl rfl ?_
    refine W.op (v := .pointer (some ⟨N25, 2, none⟩)) (fr1 := ⟨[_, _, _, _, _, _, _, _, _, _, _, _, _, _, _, _, _, _, _, _, _, _, _, _, _, _, .pointer (some ⟨N25, 2, none⟩), _, _, _, _, _, _, _, _, _, _, _, _, _, _, _, _, _, _], []⟩) rfl rfl rfl rfl ?_
    refine W.op (v := .int .i64 e23.by') (fr1 := ⟨[_, _, _, _, _, _, _, _, _, _, _, _, _, _, _, _, _, _, _, _, _, _, _, _, _, _, _, .int .i64 e23.by', _, _, _, _, _, _, _, _, _, _, _, _, _, _, _, _, _], []⟩) rfl (p_load1 r38 rfl rfl rfl rfl) rfl rfl ?_
    refine W.op (v := .int .i64 (W (e23.fr + e23.by'))) (fr1 := ⟨[_, _, _, _, _, _, _, _, _, _, _, _, _, _, _, _, _, _, _, _, _, _, _, _, _, _, _, _, .int .i64 (W (e23.fr + e23.by')), _, _, _, _, _, _, _, _, _, _, _, _, _, _, _, _], []⟩) rfl (p_bin addW) rfl rfl ?_
    by_cases h41 : W (e23.fr + e23.by') ≤ q
    · skip
      refine W.op (v := .bool true) (fr1 := ⟨[_, _, _, _, _, _, _, _, _, _, _, _, _, _, _, _, _, _, _, _, _, _, _, _, _, _, _, _, _, .bool true, _, _, _, _, _, _, _, _, _, _, _, _, _, _, _], []⟩) rfl (p_bin (geT h41)) rfl rfl ?_
      refine W.op (v := .bool true) (fr1 := ⟨[_, _, _, _, _, _, _, _, _, _, _, _, _, _, _, _, _, _, _, _, _, _, _, _, _, _, _, _, _, _, .bool true, _, _, _, _, _, _, _, _, _, _, _, _, _, _], []⟩) rfl rfl rfl rfl ?_
      refine W.op (v := .int .i64 q) (fr1 := ⟨[_, _, _, _, _, _, _, _, _, _, _, _, _, _, _, _, _, _, _, _, _, _, _, _, _, _, _, _, _, _, _, .int .i64 q, _, _, _, _, _, _, _, _, _, _, _, _, _], []⟩) rfl rfl rfl rfl ?_
      refine W.op (v := .pointer (some ⟨N25, 1, none⟩)) (fr1 := ⟨[_, _, _, _, _, _, _, _, _, _, _, _, _, _, _, _, _, _, _, _, _, _, _, _, _, _, _, _, _, _, _, _, .pointer (some ⟨N25, 1, none⟩), _, _, _, _, _, _, _, _, _, _, _, _], []⟩) rfl rfl rfl rfl ?_
      refine W.op (v := .int .i64 e23.to) (fr1 := ⟨[_, _, _, _, _, _, _, _, _, _, _, _, _, _, _, _, _, _, _, _, _, _, _, _, _, _, _, _, _, _, _, _, _, .int .i64 e23.to, _, _, _, _, _, _, _, _, _, _, _], []⟩) rfl (p_load1 r38 rfl rfl rfl rfl) rfl rfl ?_
      refine W.op (v := .pointer (some ⟨N25, 2, none⟩)) (fr1 := ⟨[_, _, _, _, _, _, _, _, _, _, _, _, _, _, _, _, _, _, _, _, _, _, _, _, _, _, _, _, _, _, _, _, _, _, .pointer (some ⟨N25, 2, none⟩), _, _, _, _, _, _, _, _, _, _], []⟩) rfl rfl rfl rfl ?_
      refine W.op (v := .int .i64 e23.by') (fr1 := ⟨[_, _, _, _, _, _, _, _, _, _, _, _, _, _, _, _, _, _, _, _, _, _, _, _, _, _, _, _, _, _, _, _, _, _, _, .int .i64 e23.by', _, _, _, _, _, _, _, _, _], []⟩) rfl (p_load1 r38 rfl rfl rfl rfl) rfl rfl ?_
      refine W.op (v := .int .i64 (W (e23.to + e23.by'))) (fr1 := ⟨[_, _, _, _, _, _, _, _, _, _, _, _, _, _, _, _, _, _, _, _, _, _, _, _, _, _, _, _, _, _, _, _, _, _, _, _, .int .i64 (W (e23.to + e23.by')), _, _, _, _, _, _, _, _], []⟩) rfl (p_bin addW) rfl rfl ?_
      by_cases h42 : q < W (e23.to + e23.by')
      · skip
        refine W.op (v := .bool true) (fr1 := ⟨[_, _, _, _, _, _, _, _, _, _, _, _, _, _, _, _, _, _, _, _, _, _, _, _, _, _, _, _, _, _, _, _, _, _, _, _, _, .bool true, _, _, _, _, _, _, _], []⟩) rfl (p_bin (ltT h42)) rfl rfl ?_
        refine W.op (v := .bool true) (fr1 := ⟨[_, _, _, _, _, _, _, _, _, _, _, _, _, _, _, _, _, _, _, _, _, _, _, _, _, _, _, _, _, _, _, _, _, _, _, _, _, _, .bool true, _, _, _, _, _, _], []⟩) rfl rfl rfl rfl ?_
        refine EndsOps.nil ?_
        refine Ends.condT rfl ?_
        refine Ends.seq ?_
        refine Ends.region ?_
        refine W.op (v := .int .i64 q) (fr1 := ⟨[_, _, _, _, _, _, _, _, _, _, _, _, _, _, _, _, _, _, _, _, _, _, _, _, _, _, _, _, _, _, _, _, _, _, _, _, _, _, _, .int .i64 q, _, _, _, _, _], []⟩) rfl rfl rfl rfl ?_
        refine W.op (v := .pointer (some ⟨N25, 2, none⟩)) (fr1 := ⟨[_, _, _, _, _, _, _, _, _, _, _, _, _, _, _, _, _, _, _, _, _, _, _, _, _, _, _, _, _, _, _, _, _, _, _, _, _, _, _, _, .pointer (some ⟨N25, 2, none⟩), _, _, _, _], []⟩) rfl rfl rfl rfl ?_
        refine W.op (v := .int .i64 e23.by') (fr1 := ⟨[_, _, _, _, _, _, _, _, _, _, _, _, _, _, _, _, _, _, _, _, _, _, _, _, _, _, _, _, _, _, _, _, _, _, _, _, _, _, _, _, _, .int .i64 e23.by', _, _, _], []⟩) rfl (p_load1 r38 rfl rfl rfl rfl) rfl rfl ?_
        refine W.op (v := .int .i64 (W (q - e23.by'))) (fr1 := ⟨[_, _, _, _, _, _, _, _, _, _, _, _, _, _, _, _, _, _, _, _, _, _, _, _, _, _, _, _, _, _, _, _, _, _, _, _, _, _, _, _, _, _, .int .i64 (W (q - e23.by')), _, _], []⟩) rfl (p_bin subW) rfl rfl ?_
        refine W.op (v := .int .i64 (W (q - e23.by'))) (fr1 := ⟨[_, _, _, _, _, _, .int .i64 (W (q - e23.by')), _, _, _, _, _, _, _, _, _, _, _, _, _, _, _, _, _, _, _, _, _, _, _, _, _, _, _, _, _, _, _, _, _, _, _, _, _, _], []⟩) rfl rfl rfl rfl ?_
        refine W.op (v := .nilIface) (fr1 := ⟨[_, _, _, _, _, _, _, .nilIface, _, _, _, _, _, _, _, _, _, _, _, _, _, _, _, _, _, _, _, _, _, _, _, _, _, _, _, _, _, _, _, _, _, _, _, _, _], []⟩) rfl rfl rfl rfl ?_
        refine EndsOps.nil ?_
        refine Ends.ret ?_
        exact ⟨rfl, rfl, hO35, by
          show Value.tuple ⟨[.int .i64 (W (q - e23.by')), .nilIface]⟩ = Value.tuple ⟨[.int .i64 (caS l n q).1, errV (caS l n q).2]⟩
          rw [caS_at hn he24 ⟨h41, h42⟩]; rfl⟩
      · skip
        refine W.op (v := .bool false) (fr1 := ⟨[_, _, _, _, _, _, _, _, _, _, _, _, _, _, _, _, _, _, _, _, _, _, _, _, _, _, _, _, _, _, _, _, _, _, _, _, _, .bool false, _, _, _, _, _, _, _], []⟩) rfl (p_bin (ltF h42)) rfl rfl ?_
        refine W.op (v := .bool false) (fr1 := ⟨[_, _, _, _, _, _, _, _, _, _, _, _, _, _, _, _, _, _, _, _, _, _, _, _, _, _, _, _, _, _, _, _, _, _, _, _, _, _, .bool false, _, _, _, _, _, _], []⟩) rfl rfl rfl rfl ?_
        refine EndsOps.nil ?_
        refine Ends.condF rfl ?_
        refine Ends.skip ?_
        refine Ends.region ?_
        refine W.op (v := .int .i64 ((i + 1 : Nat) : Int)) (fr1 := ⟨[_, _, _, _, _, _, _, _, _, _, _, _, _, _, _, _, _, _, _, _, _, _, _, _, _, _, _, _, _, _, _, _, _, _, _, _, _, _, _, _, _, _, _, .int .i64 ((i + 1 : Nat) : Int), _], []⟩) rfl (p_bin (addI (by omega) (by omega) (by omega))) rfl rfl ?_
        refine W.op (v := .int .i64 ((i + 1 : Nat) : Int)) (fr1 := ⟨[_, _, _, _, _, _, _, _, _, _, _, _, _, _, _, _, _, _, _, .int .i64 ((i + 1 : Nat) : Int), _, _, _, _, _, _, _, _, _, _, _, _, _, _, _, _, _, _, _, _, _, _, _, _, _], []⟩) rfl rfl rfl rfl ?_
        refine EndsOps.nil ?_
        exact ⟨_, (by omega), i + 1, _, _, _, _, _, _, _, _, _, _, _, _, _, _, _, _, _, _, _, _, _, _, _, _, _, _, _, rfl, hO35, rfl, hE40, by omega, NoB.step hn he24 (fun h => h42 h.2)⟩
    · skip
      refine W.op (v := .bool false) (fr1 := ⟨[_, _, _, _, _, _, _, _, _, _, _, _, _, _, _, _, _, _, _, _, _, _, _, _, _, _, _, _, _, .bool false, _, _, _, _, _, _, _, _, _, _, _, _, _, _, _], []⟩) rfl (p_bin (geF h41)) rfl rfl ?_
      refine W.op (v := .bool false) (fr1 := ⟨[_, _, _, _, _, _, _, _, _, _, _, _, _, _, _, _, _, _, _, _, _, _, _, _, _, _, _, _, _, _, .bool false, _, _, _, _, _, _, _, _, _, _, _, _, _, _], []⟩) rfl rfl rfl rfl ?_
      refine W.skip (fr1 := ⟨[_, _, _, _, _, _, _, _, _, _, _, _, _, _, _, _, _, _, _, _, _, _, _, _, _, _, _, _, _, _, _, undef, _, _, _, _, _, _, _, _, _, _, _, _, _], []⟩) rfl rfl ?_
      refine W.skip (fr1 := ⟨[_, _, _, _, _, _, _, _, _, _, _, _, _, _, _, _, _, _, _, _, _, _, _, _, _, _, _, _, _, _, _, _, undef, _, _, _, _, _, _, _, _, _, _, _, _], []⟩) rfl rfl ?_
      refine W.skip (fr1 := ⟨[_, _, _, _, _, _, _, _, _, _, _, _, _, _, _, _, _, _, _, _, _, _, _, _, _, _, _, _, _, _, _, _, _, undef, _, _, _, _, _, _, _, _, _, _, _], []⟩) rfl rfl ?_
      refine W.skip (fr1 := ⟨[_, _, _, _, _, _, _, _, _, _, _, _, _, _, _, _, _, _, _, _, _, _, _, _, _, _, _, _, _, _, _, _, _, _, undef, _, _, _, _, _, _, _, _, _, _], []⟩) rfl rfl ?_
      refine W.skip (fr1 := ⟨[_, _, _, _, _, _, _, _, _, _, _, _, _, _, _, _, _, _, _, _, _, _, _, _, _, _, _, _, _, _, _, _, _, _, _, undef, _, _, _, _, _, _, _, _, _], []⟩) rfl rfl ?_
      refine W.skip (fr1 := ⟨[_, _, _, _, _, _, _, _, _, _, _, _, _, _, _, _, _, _, _, _, _, _, _, _, _, _, _, _, _, _, _, _, _, _, _, _, undef, _, _, _, _, _, _, _, _], []⟩) rfl rfl ?_
      refine W.skip (fr1 := ⟨[_, _, _, _, _, _, _, _, _, _, _, _, _, _, _, _, _, _, _, _, _, _, _, _, _, _, _, _, _, _, _, _, _, _, _, _, _, undef, _, _, _, _, _, _, _], []⟩) rfl rfl ?_
      refine W.op (v := .bool false) (fr1 := ⟨[_, _, _, _, _, _, _, _, _, _, _, _, _, _, _, _, _, _, _, _, _, _, _, _, _, _, _, _, _, _, _, _, _, _, _, _, _, _, .bool false, _, _, _, _, _, _], []⟩) rfl rfl rfl rfl ?_
      refine EndsOps.nil ?_
      refine Ends.condF rfl ?_
      refine Ends.skip ?_
      refine Ends.region ?_
      refine W.op (v := .int .i64 ((i + 1 : Nat) : Int)) (fr1 := ⟨[_, _, _, _, _, _, _, _, _, _, _, _, _, _, _, _, _, _, _, _, _, _, _, _, _, _, _, _, _, _, _, _, _, _, _, _, _, _, _, _, _, _, _, .int .i64 ((i + 1 : Nat) : Int), _], []⟩) rfl (p_bin (addI (by omega) (by omega) (by omega))) rfl rfl ?_
      refine W.op (v := .int .i64 ((i + 1 : Nat) : Int)) (fr1 := ⟨[_, _, _, _, _, _, _, _, _, _, _, _, _, _, _, _, _, _, _, .int .i64 ((i + 1 : Nat) : Int), _, _, _, _, _, _, _, _, _, _, _, _, _, _, _, _, _, _, _, _, _, _, _, _, _], []⟩) rfl rfl rfl rfl ?_
      refine EndsOps.nil ?_
      exact ⟨_, (by omega), i + 1, _, _, _, _, _, _, _, _, _, _, _, _, _, _, _, _, _, _, _, _, _, _, _, _, _, _, _, rfl, hO35, rfl, hE40, by omega, NoB.step hn he24 (fun h => h41 h.1)⟩
  · skip
    refine W.op (v := .bool false) (fr1 := ⟨[_, _, _, _, _, _, _, _, _, _, _, _, _, _, _, _, _, _, _, _, .bool false, _, _, _, _, _, _, _, _, _, _, _, _, _, _, _, _, _, _, _, _, _, _, _, _], []⟩) rfl (p_bin (ltF h22)) rfl rfl ?_
    refine EndsOps.nil ?_
    refine Ends.seq ?_
    refine Ends.condF rfl ?_
    refine Ends.exit ?_
    refine W.outT rfl ?_
    refine Ends.seq ?_
    refine Ends.region ?_
    refine W.op (v := .iface 37 (.int .i64 5)) (fr1 := ⟨[_, _, _, _, _, _, _, _, _, _, _, _, _, _, _, _, _, _, _, _, _, _, _, _, _, _, _, _, _, _, _, _, _, _, _, _, _, _, _, _, _, _, _, _, .iface 37 (.int .i64 5)], []⟩) rfl rfl rfl rfl ?_
    refine W.op (v := .int .i64 0) (fr1 := ⟨[_, _, _, _, _, _, .int .i64 0, _, _, _, _, _, _, _, _, _, _, _, _, _, _, _, _, _, _, _, _, _, _, _, _, _, _, _, _, _, _, _, _, _, _, _, _, _, _], []⟩) rfl rfl rfl rfl ?_
    refine W.op (v := .iface 37 (.int .i64 5)) (fr1 := ⟨[_, _, _, _, _, _, _, .iface 37 (.int .i64 5), _, _, _, _, _, _, _, _, _, _, _, _, _, _, _, _, _, _, _, _, _, _, _, _, _, _, _, _, _, _, _, _, _, _, _, _, _], []⟩) rfl rfl rfl rfl ?_
    refine EndsOps.nil ?_
    refine Ends.ret ?_
    exact ⟨rfl, rfl, hO19, by
      show Value.tuple ⟨[.int .i64 0, .iface 37 (.int .i64 5)]⟩ = Value.tuple ⟨[.int .i64 (caS l n q).1, errV (caS l n q).2]⟩
      rw [caS_none hn (by omega)]; rfl⟩

theorem c18F (al : Option Addr) (l : List Ed) (cl Nl ol : Nat) (vl : List Value) (yl zl : Nat) (n q : Int) (hR : ¬ Right l n) (s : St) (Hl : Sl Ed.cells 3 s.t s.next al l Nl ol vl yl zl)  : EndsPure R1.T 18 [.slice al l.length cl, .int .i64 n, .int .i64 q] s (fun v _ _ => v = .tuple ⟨[.int .i64 0, .iface 37 (.int .i64 2)]⟩) := by
  refine EndsPure.of (rs := [6, 7]) (fr0 := ⟨[.slice al l.length cl, .int .i64 n, .int .i64 q, undef, undef, undef, undef, undef, undef, undef, undef, undef, undef, undef, undef, undef, undef, undef, undef, undef, undef, undef, undef, undef, undef, undef, undef, undef, undef, undef, undef, undef, undef, undef, undef, undef, undef, undef, undef, undef, undef, undef, undef, undef, undef], []⟩) (by kernel_rfl : R1.T.fn 18 = some ⟨45, (Try.f18.body).getD .skip, [.tmp 6, .tmp 7]⟩) rfl ?_
  have hO0 := Own.refl s
  have Ml := Hl.small
  simp only [Try.f18, Option.getD]
  refine Ends.seq ?_
  refine Ends.region ?_
  refine W.op (v := .int .i64 0) (fr1 := ⟨[_, _, _, _, _, _, .int .i64 0, _, _, _, _, _, _, _, _, _, _, _, _, _, _, _, _, _, _, _, _, _, _, _, _, _, _, _, _, _, _, _, _, _, _, _, _, _, _], []⟩) rfl rfl rfl rfl ?_
  refine W.op (v := .nilIface) (fr1 := ⟨[_, _, _, _, _, _, _, .nilIface, _, _, _, _, _, _, _, _, _, _, _, _, _, _, _, _, _, _, _, _, _, _, _, _, _, _, _, _, _, _, _, _, _, _, _, _, _], []⟩) rfl rfl rfl rfl ?_
  refine EndsOps.nil ?_
  refine Ends.seq ?_
  refine Ends.seq ?_
  refine Ends.region ?_
  refine W.op (v := .slice al l.length cl) (fr1 := ⟨[_, _, _, _, _, _, _, _, _, _, .slice al l.length cl, _, _, _, _, _, _, _, _, _, _, _, _, _, _, _, _, _, _, _, _, _, _, _, _, _, _, _, _, _, _, _, _, _, _], []⟩) rfl rfl rfl rfl ?_
  refine W.op (v := .int .i64 n) (fr1 := ⟨[_, _, _, _, _, _, _, _, _, _, _, .int .i64 n, _, _, _, _, _, _, _, _, _, _, _, _, _, _, _, _, _, _, _, _, _, _, _, _, _, _, _, _, _, _, _, _, _], []⟩) rfl rfl rfl rfl ?_
  refine W.call (ar := [.slice al l.length cl, .int .i64 n]) (X := .bool false) (fr1 := ⟨[_, _, _, _, _, _, _, _, _, _, _, _, .bool false, _, _, _, _, _, _, _, _, _, _, _, _, _, _, _, _, _, _, _, _, _, _, _, _, _, _, _, _, _, _, _, _], []⟩) hO0 rfl rfl rfl rfl ((c35 _ _ _ _ _ _ _ _ n _ (Hl.own hO0)).mono fun v _ _ h => h.trans (congrArg Value.bool (decide_eq_false hR))) rfl ?_
  intro s1 hO2 hS3
  refine W.op (v := .bool true) (fr1 := ⟨[_, _, _, _, _, _, _, _, _, _, _, _, _, .bool true, _, _, _, _, _, _, _, _, _, _, _, _, _, _, _, _, _, _, _, _, _, _, _, _, _, _, _, _, _, _, _], []⟩) rfl rfl rfl rfl ?_
  refine EndsOps.nil ?_
  refine Ends.condT rfl ?_
  refine Ends.seq ?_
  refine Ends.region ?_
  refine W.op (v := .iface 37 (.int .i64 2)) (fr1 := ⟨[_, _, _, _, _, _, _, _, _, _, _, _, _, _, .iface 37 (.int .i64 2), _, _, _, _, _, _, _, _, _, _, _, _, _, _, _, _, _, _, _, _, _, _, _, _, _, _, _, _, _, _], []⟩) rfl rfl rfl rfl ?_
  refine W.op (v := .int .i64 0) (fr1 := ⟨[_, _, _, _, _, _, .int .i64 0, _, _, _, _, _, _, _, _, _, _, _, _, _, _, _, _, _, _, _, _, _, _, _, _, _, _, _, _, _, _, _, _, _, _, _, _, _, _], []⟩) rfl rfl rfl rfl ?_
  refine W.op (v := .iface 37 (.int .i64 2)) (fr1 := ⟨[_, _, _, _, _, _, _, .iface 37 (.int .i64 2), _, _, _, _, _, _, _, _, _, _, _, _, _, _, _, _, _, _, _, _, _, _, _, _, _, _, _, _, _, _, _, _, _, _, _, _, _], []⟩) rfl rfl rfl rfl ?_
  refine EndsOps.nil ?_
  refine Ends.ret ?_
  exact ⟨rfl, rfl, hO2, by
    show Value.tuple ⟨[.int .i64 0, .iface 37 (.int .i64 2)]⟩ = Value.tuple ⟨[.int .i64 0, .iface 37 (.int .i64 2)]⟩
    rfl⟩

theorem c21T (al : Option Addr) (l : List Ed) (cl Nl ol : Nat) (vl : List Value) (yl zl : Nat) (n : Int) (hB : l.length ≤ 1000) (hR : Right l n) (s : St) (Hl : Sl Ed.cells 3 s.t s.next al l Nl ol vl yl zl)  : EndsPure R1.T 21 [.slice al l.length cl, .int .i64 n] s (fun v t m => ∃ w, v = .tuple ⟨[w, .nilIface]⟩ ∧ OL Sp.cells 2 39 s.next t m w (spansS l)) := by
  refine EndsPure.of (rs := [4, 5]) (fr0 := ⟨[.slice al l.length cl, .int .i64 n, undef, undef, undef, undef, undef, undef, undef, undef, undef, undef, undef, undef, undef, undef, undef, undef, undef, undef, undef, undef, undef, undef, undef, undef, undef, undef, undef, undef, undef, undef, undef, undef, undef, undef, undef, undef, undef, undef, undef, undef, undef, undef, undef, undef, undef, undef, undef, undef], []⟩) (by kernel_rfl : R1.T.fn 21 = some ⟨50, (Try.f21.body).getD .skip, [.tmp 4, .tmp 5]⟩) rfl ?_
  have hO0 := Own.refl s
  have Ml := Hl.small
  simp only [Try.f21, Option.getD]
  refine Ends.seq ?_
  refine Ends.region ?_
  refine W.op (v := .slice none 0 0) (fr1 := ⟨[_, _, _, _, .slice none 0 0, _, _, _, _, _, _, _, _, _, _, _, _, _, _, _, _, _, _, _, _, _, _, _, _, _, _, _, _, _, _, _, _, _, _, _, _, _, _, _, _, _, _, _, _, _], []⟩) rfl rfl rfl rfl ?_
  refine W.op (v := .nilIface) (fr1 := ⟨[_, _, _, _, _, .nilIface, _, _, _, _, _, _, _, _, _, _, _, _, _, _, _, _, _, _, _, _, _, _, _, _, _, _, _, _, _, _, _, _, _, _, _, _, _, _, _, _, _, _, _, _], []⟩) rfl rfl rfl rfl ?_
  refine EndsOps.nil ?_
  refine Ends.seq ?_
  refine Ends.seq ?_
  refine Ends.region ?_
  refine W.op (v := .slice al l.length cl) (fr1 := ⟨[_, _, _, _, _, _, _, _, _, _, .slice al l.length cl, _, _, _, _, _, _, _, _, _, _, _, _, _, _, _, _, _, _, _, _, _, _, _, _, _, _, _, _, _, _, _, _, _, _, _, _, _, _, _], []⟩) rfl rfl rfl rfl ?_
  refine W.op (v := .int .i64 n) (fr1 := ⟨[_, _, _, _, _, _, _, _, _, _, _, .int .i64 n, _, _, _, _, _, _, _, _, _, _, _, _, _, _, _, _, _, _, _, _, _, _, _, _, _, _, _, _, _, _, _, _, _, _, _, _, _, _], []⟩) rfl rfl rfl rfl ?_
  refine W.call (ar := [.slice al l.length cl, .int .i64 n]) (X := .bool true) (fr1 := ⟨[_, _, _, _, _, _, _, _, _, _, _, _, .bool true, _, _, _, _, _, _, _, _, _, _, _, _, _, _, _, _, _, _, _, _, _, _, _, _, _, _, _, _, _, _, _, _, _, _, _, _, _], []⟩) hO0 rfl rfl rfl rfl ((c35 _ _ _ _ _ _ _ _ n _ (Hl.own hO0)).mono fun v _ _ h => h.trans (congrArg Value.bool (decide_eq_true hR))) rfl ?_
  intro s1 hO2 hS3
  refine W.op (v := .bool false) (fr1 := ⟨[_, _, _, _, _, _, _, _, _, _, _, _, _, .bool false, _, _, _, _, _, _, _, _, _, _, _, _, _, _, _, _, _, _, _, _, _, _, _, _, _, _, _, _, _, _, _, _, _, _, _, _], []⟩) rfl rfl rfl rfl ?_
  refine EndsOps.nil ?_
  refine Ends.condF rfl ?_
  refine Ends.skip ?_
  refine Ends.seq ?_
  refine Ends.region ?_
  refine W.op (v := .slice none 0 0) (fr1 := ⟨[_, _, _, _, _, _, .slice none 0 0, _, _, _, _, _, _, _, _, _, _, _, _, _, _, _, _, _, _, _, _, _, _, _, _, _, _, _, _, _, _, _, _, _, _, _, _, _, _, _, _, _, _, _], []⟩) rfl rfl rfl rfl ?_
  refine EndsOps.nil ?_
  refine Ends.seq ?_
  refine Ends.region ?_
  refine W.op (v := .int .i64 0) (fr1 := ⟨[_, _, _, _, _, _, _, .int .i64 0, _, _, _, _, _, _, _, _, _, _, _, _, _, _, _, _, _, _, _, _, _, _, _, _, _, _, _, _, _, _, _, _, _, _, _, _, _, _, _, _, _, _], []⟩) rfl rfl rfl rfl ?_
  refine EndsOps.nil ?_
  refine Ends.seq ?_
  refine Ends.seq ?_
  refine Ends.region ?_
  refine W.op (v := .slice al l.length cl) (fr1 := ⟨[_, _, _, _, _, _, _, _, _, _, _, _, _, _, _, .slice al l.length cl, _, _, _, _, _, _, _, _, _, _, _, _, _, _, _, _, _, _, _, _, _, _, _, _, _, _, _, _, _, _, _, _, _, _], []⟩) rfl rfl rfl rfl ?_
  refine W.op (v := .int .i64 ((l.length : Nat) : Int)) (fr1 := ⟨[_, _, _, _, _, _, _, _, _, _, _, _, _, _, _, _, .int .i64 ((l.length : Nat) : Int), _, _, _, _, _, _, _, _, _, _, _, _, _, _, _, _, _, _, _, _, _, _, _, _, _, _, _, _, _, _, _, _, _], []⟩) rfl rfl rfl rfl ?_
  refine W.op (v := .int .i64 0) (fr1 := ⟨[_, _, _, _, _, _, _, _, _, _, _, _, _, _, _, _, _, .int .i64 0, _, _, _, _, _, _, _, _, _, _, _, _, _, _, _, _, _, _, _, _, _, _, _, _, _, _, _, _, _, _, _, _], []⟩) rfl rfl rfl rfl ?_
  refine EndsOps.nil ?_
  refine W.block ?_
  refine Ends.loopInv (fun d fr s1 => ∃ (i : Nat) (v : Value) (j9 j18 j19 j20 j21 j22 j23 j24 j25 j26 j27 j28 j29 j30 j31 j32 j33 j34 j35 j36 j37 j38 j39 j40 j41 j42 j43 j44 j45 j46 j47 j48 : Value), fr = ⟨[.slice al l.length cl, .int .i64 n, undef, undef, .slice none 0 0, .nilIface, v, .int .i64 ((spanF (l.take i)).2), undef, j9, .slice al l.length cl, .int .i64 n, .bool true, .bool false, undef, .slice al l.length cl, .int .i64 ((l.length : Nat) : Int), .int .i64 ((i : Nat) : Int), j18, j19, j20, j21, j22, j23, j24, j25, j26, j27, j28, j29, j30, j31, j32, j33, j34, j35, j36, j37, j38, j39, j40, j41, j42, j43, j44, j45, j46, j47, j48, undef], []⟩ ∧ Own s s1 ∧ d = l.length - i ∧ (OL Sp.cells 2 39 s.next s1.t s1.next v ((spanF (l.take i)).1)) ∧ (i ≤ l.length)) ?_ _ _ _ ⟨0, .slice none 0 0, _, _, _, _, _, _, _, _, _, _, _, _, _, _, _, _, _, _, _, _, _, _, _, _, _, _, _, _, _, _, _, _, rfl, hO2, rfl, OL.nil, Nat.zero_le _⟩
  rintro d _ s4 ⟨i, v, j9, j18, j19, j20, j21, j22, j23, j24, j25, j26, j27, j28, j29, j30, j31, j32, j33, j34, j35, j36, j37, j38, j39, j40, j41, j42, j43, j44, j45, j46, j47, j48, rfl, hO5, hd6, hol7, hi⟩
  have gl : (spanF (l.take i)).1.length = i := spanF_len' hi
  refine Ends.seq ?_
  refine Ends.region ?_
  by_cases h8 : ((i : Nat) : Int) < ((l.length : Nat) : Int)
  · skip
    refine W.op (v := .bool true) (fr1 := ⟨[_, _, _, _, _, _, _, _, _, _, _, _, _, _, _, _, _, _, .bool true, _, _, _, _, _, _, _, _, _, _, _, _, _, _, _, _, _, _, _, _, _, _, _, _, _, _, _, _, _, _, _], []⟩) rfl (p_bin (ltT h8)) rfl rfl ?_
    refine EndsOps.nil ?_
    refine Ends.seq ?_
    refine Ends.condT rfl ?_
    refine Ends.skip ?_
    refine Ends.seq ?_
    refine W.block ?_
    refine Ends.seq ?_
    refine Ends.region ?_
    obtain ⟨e9, he10⟩ := ex_at (l := l) (i := i) (by omega)
    refine W.op (v := .pointer (some ⟨Nl, ol + i * 3, none⟩)) (fr1 := ⟨[_, _, _, _, _, _, _, _, _, _, _, _, _, _, _, _, _, _, _, .pointer (some ⟨Nl, ol + i * 3, none⟩), _, _, _, _, _, _, _, _, _, _, _, _, _, _, _, _, _, _, _, _, _, _, _, _, _, _, _, _, _, _], []⟩) rfl (p_ix (Sl.ix Hl rfl rfl he10 _)) rfl rfl ?_
    refine W.op (v := .agg ⟨[.int .i64 e9.lo, .int .i64 e9.hi, .string e9.tx]⟩) (fr1 := ⟨[_, _, _, _, _, _, _, _, _, _, _, _, _, _, _, _, _, _, _, _, .agg ⟨[.int .i64 e9.lo, .int .i64 e9.hi, .string e9.tx]⟩, _, _, _, _, _, _, _, _, _, _, _, _, _, _, _, _, _, _, _, _, _, _, _, _, _, _, _, _, _], []⟩) rfl (p_loadA (Sl.row' (Hl.own hO5) he10) rfl rfl rfl rfl ((Hl.own hO5).get _ _ he10)) rfl rfl ?_
    obtain ⟨N11, hN12⟩ : ∃ N, N = s4.next := ⟨_, rfl⟩
    have hb13 : s4.next ≤ N11 := hN12 ▸ (Own.refl s4).next
    refine W.new (N := N11) (vs := [.int .i64 0, .int .i64 0, .string ByteArray.empty]) (fr1 := ⟨[_, _, _, _, _, _, _, _, _, .pointer (some ⟨N11, 0, none⟩), _, _, _, _, _, _, _, _, _, _, _, _, _, _, _, _, _, _, _, _, _, _, _, _, _, _, _, _, _, _, _, _, _, _, _, _, _, _, _, _], []⟩) hO5 hN12 rfl (p_alloc zero97 rfl) rfl rfl ?_
    intro s14 hO15 hS16 r17 hB18
    have hE19 := (Own.refl s4).trans hS16
    refine W.store2 (cs := [.int .i64 e9.lo, .int .i64 e9.hi, .string e9.tx]) (vs' := [.int .i64 e9.lo, .int .i64 e9.hi, .string e9.tx]) (fr1 := ⟨[_, _, _, _, _, _, _, _, _, _, _, _, _, _, _, _, _, _, _, _, _, _, _, _, _, _, _, _, _, _, _, _, _, _, _, _, _, _, _, _, _, _, _, _, _, _, _, _, _, _], []⟩) hO15 r17 hB18 rfl rfl rfl rfl (by kernel_rfl) (by simp) (by simp [END, oneCell]) rfl rfl ?_
    intro s20 hO21 hn22 hu23 r24 hX25
    have hE26 := hX25 s4 hE19 hb13
    refine EndsOps.nil ?_
    refine Ends.seq ?_
    refine Ends.region ?_
    refine W.op (v := v) (fr1 := ⟨[_, _, _, _, _, _, _, _, _, _, _, _, _, _, _, _, _, _, _, _, _, v, _, _, _, _, _, _, _, _, _, _, _, _, _, _, _, _, _, _, _, _, _, _, _, _, _, _, _, _], []⟩) rfl rfl rfl rfl ?_
    refine W.op (v := .pointer (some ⟨N11, 0, none⟩)) (fr1 := ⟨[_, _, _, _, _, _, _, _, _, _, _, _, _, _, _, _, _, _, _, _, _, _, .pointer (some ⟨N11, 0, none⟩), _, _, _, _, _, _, _, _, _, _, _, _, _, _, _, _, _, _, _, _, _, _, _, _, _, _, _], []⟩) rfl rfl rfl rfl ?_
    refine W.op (v := .int .i64 e9.lo) (fr1 := ⟨[_, _, _, _, _, _, _, _, _, _, _, _, _, _, _, _, _, _, _, _, _, _, _, .int .i64 e9.lo, _, _, _, _, _, _, _, _, _, _, _, _, _, _, _, _, _, _, _, _, _, _, _, _, _, _], []⟩) rfl (p_load1 r24 rfl rfl rfl rfl) rfl rfl ?_
    refine W.op (v := .int .i64 ((spanF (l.take i)).2)) (fr1 := ⟨[_, _, _, _, _, _, _, _, _, _, _, _, _, _, _, _, _, _, _, _, _, _, _, _, .int .i64 ((spanF (l.take i)).2), _, _, _, _, _, _, _, _, _, _, _, _, _, _, _, _, _, _, _, _, _, _, _, _, _], []⟩) rfl rfl rfl rfl ?_
    refine W.op (v := .int .i64 (W (e9.lo + (spanF (l.take i)).2))) (fr1 := ⟨[_, _, _, _, _, _, _, _, _, _, _, _, _, _, _, _, _, _, _, _, _, _, _, _, _, .int .i64 (W (e9.lo + (spanF (l.take i)).2)), _, _, _, _, _, _, _, _, _, _, _, _, _, _, _, _, _, _, _, _, _, _, _, _], []⟩) rfl (p_bin addW) rfl rfl ?_
    refine W.op (v := .pointer (some ⟨N11, 0, none⟩)) (fr1 := ⟨[_, _, _, _, _, _, _, _, _, _, _, _, _, _, _, _, _, _, _, _, _, _, _, _, _, _, .pointer (some ⟨N11, 0, none⟩), _, _, _, _, _, _, _, _, _, _, _, _, _, _, _, _, _, _, _, _, _, _, _], []⟩) rfl rfl rfl rfl ?_
    refine W.op (v := .int .i64 e9.lo) (fr1 := ⟨[_, _, _, _, _, _, _, _, _, _, _, _, _, _, _, _, _, _, _, _, _, _, _, _, _, _, _, .int .i64 e9.lo, _, _, _, _, _, _, _, _, _, _, _, _, _, _, _, _, _, _, _, _, _, _], []⟩) rfl (p_load1 r24 rfl rfl rfl rfl) rfl rfl ?_
    refine W.op (v := .int .i64 ((spanF (l.take i)).2)) (fr1 := ⟨[_, _, _, _, _, _, _, _, _, _, _, _, _, _, _, _, _, _, _, _, _, _, _, _, _, _, _, _, .int .i64 ((spanF (l.take i)).2), _, _, _, _, _, _, _, _, _, _, _, _, _, _, _, _, _, _, _, _, _], []⟩) rfl rfl rfl rfl ?_
    refine W.op (v := .int .i64 (W (e9.lo + (spanF (l.take i)).2))) (fr1 := ⟨[_, _, _, _, _, _, _, _, _, _, _, _, _, _, _, _, _, _, _, _, _, _, _, _, _, _, _, _, _, .int .i64 (W (e9.lo + (spanF (l.take i)).2)), _, _, _, _, _, _, _, _, _, _, _, _, _, _, _, _, _, _, _, _], []⟩) rfl (p_bin addW) rfl rfl ?_
    refine W.op (v := .pointer (some ⟨N11, 2, none⟩)) (fr1 := ⟨[_, _, _, _, _, _, _, _, _, _, _, _, _, _, _, _, _, _, _, _, _, _, _, _, _, _, _, _, _, _, .pointer (some ⟨N11, 2, none⟩), _, _, _, _, _, _, _, _, _, _, _, _, _, _, _, _, _, _, _], []⟩) rfl rfl rfl rfl ?_
    refine W.op (v := .string e9.tx) (fr1 := ⟨[_, _, _, _, _, _, _, _, _, _, _, _, _, _, _, _, _, _, _, _, _, _, _, _, _, _, _, _, _, _, _, .string e9.tx, _, _, _, _, _, _, _, _, _, _, _, _, _, _, _, _, _, _], []⟩) rfl (p_load1 r24 rfl rfl rfl rfl) rfl rfl ?_
    refine W.op (v := .int .i64 (((B e9.tx).length : Nat) : Int)) (fr1 := ⟨[_, _, _, _, _, _, _, _, _, _, _, _, _, _, _, _, _, _, _, _, _, _, _, _, _, _, _, _, _, _, _, _, .int .i64 (((B e9.tx).length : Nat) : Int), _, _, _, _, _, _, _, _, _, _, _, _, _, _, _, _, _], []⟩) rfl rfl rfl rfl ?_
    refine W.op (v := .int .i64 (W (W (e9.lo + (spanF (l.take i)).2) + (((B e9.tx).length : Nat) : Int)))) (fr1 := ⟨[_, _, _, _, _, _, _, _, _, _, _, _, _, _, _, _, _, _, _, _, _, _, _, _, _, _, _, _, _, _, _, _, _, .int .i64 (W (W (e9.lo + (spanF (l.take i)).2) + (((B e9.tx).length : Nat) : Int))), _, _, _, _, _, _, _, _, _, _, _, _, _, _, _, _], []⟩) rfl (p_bin addW) rfl rfl ?_
    refine W.op (v := .agg ⟨[.int .i64 (W (e9.lo + (spanF (l.take i)).2)), .int .i64 (W (W (e9.lo + (spanF (l.take i)).2) + (((B e9.tx).length : Nat) : Int)))]⟩) (fr1 := ⟨[_, _, _, _, _, _, _, _, _, _, _, _, _, _, _, _, _, _, _, _, _, _, _, _, _, _, _, _, _, _, _, _, _, _, .agg ⟨[.int .i64 (W (e9.lo + (spanF (l.take i)).2)), .int .i64 (W (W (e9.lo + (spanF (l.take i)).2) + (((B e9.tx).length : Nat) : Int)))]⟩, _, _, _, _, _, _, _, _, _, _, _, _, _, _, _], []⟩) rfl rfl rfl rfl ?_
    obtain ⟨N27, hN28⟩ : ∃ N, N = s20.next := ⟨_, rfl⟩
    have hb29 : s4.next ≤ N27 := hN28 ▸ hE26.next
    refine W.newS (N := N27) (vs := [.int .i64 (W (e9.lo + (spanF (l.take i)).2)), .int .i64 (W (W (e9.lo + (spanF (l.take i)).2) + (((B e9.tx).length : Nat) : Int)))]) (fr1 := ⟨[_, _, _, _, _, _, _, _, _, _, _, _, _, _, _, _, _, _, _, _, _, _, _, _, _, _, _, _, _, _, _, _, _, _, _, .slice (some ⟨N27, 0, none⟩) 1 1, _, _, _, _, _, _, _, _, _, _, _, _, _, _], []⟩) hO21 hN28 rfl (p_bs rfl rfl zero39 rfl (by decide) rfl rfl) rfl rfl ?_
    intro s30 hO31 hS32 r33 hB34
    have hE35 := hE26.trans hS32
    have r36 := r24.own hS32
    refine W.append (c := Sp.cells) (l := ((spanF (l.take i)).1)) (x := ⟨W (e9.lo + (spanF (l.take i)).2), W (W (e9.lo + (spanF (l.take i)).2) + (((B e9.tx).length : Nat) : Int))⟩) (fF := fun v37 => ⟨[_, _, _, _, _, _, _, _, _, _, _, _, _, _, _, _, _, _, _, _, _, _, _, _, _, _, _, _, _, _, _, _, _, _, _, _, v37, _, _, _, _, _, _, _, _, _, _, _, _, _], []⟩) app31 (fun _ => rfl) (by exact Sp.one) hO31 hE35 hol7 r33 rfl rfl rfl rfl (by omega) (by omega) (fun _ => rfl) ?_
    intro v37 s38 hO39 hnx40 hu41 hol42
    have r43 : Row s38.t s38.next _ _ _ _ := ⟨(hu41 _ hb13 r36.lt).trans r36.get, Nat.lt_of_lt_of_le r36.lt hnx40⟩
    have r44 : Row s38.t s38.next _ _ _ _ := ⟨(hu41 _ hb29 r33.lt).trans r33.get, Nat.lt_of_lt_of_le r33.lt hnx40⟩
    refine W.op (v := v37) (fr1 := ⟨[_, _, _, _, _, _, v37, _, _, _, _, _, _, _, _, _, _, _, _, _, _, _, _, _, _, _, _, _, _, _, _, _, _, _, _, _, _, _, _, _, _, _, _, _, _, _, _, _, _, _], []⟩) rfl rfl rfl rfl ?_
    refine EndsOps.nil ?_
    refine Ends.region ?_
    refine W.op (v := .int .i64 ((spanF (l.take i)).2)) (fr1 := ⟨[_, _, _, _, _, _, _, _, _, _, _, _, _, _, _, _, _, _, _, _, _, _, _, _, _, _, _, _, _, _, _, _, _, _, _, _, _, .int .i64 ((spanF (l.take i)).2), _, _, _, _, _, _, _, _, _, _, _, _], []⟩) rfl rfl rfl rfl ?_
    refine W.op (v := .pointer (some ⟨N11, 2, none⟩)) (fr1 := ⟨[_, _, _, _, _, _, _, _, _, _, _, _, _, _, _, _, _, _, _, _, _, _, _, _, _, _, _, _, _, _, _, _, _, _, _, _, _, _, .pointer (some ⟨N11, 2, none⟩), _, _, _, _, _, _, _, _, _, _, _], []⟩) rfl rfl rfl rfl ?_
    refine W.op (v := .string e9.tx) (fr1 := ⟨[_, _, _, _, _, _, _, _, _, _, _, _, _, _, _, _, _, _, _, _, _, _, _, _, _, _, _, _, _, _, _, _, _, _, _, _, _, _, _, .string e9.tx, _, _, _, _, _, _, _, _, _, _], []⟩) rfl (p_load1 r43 rfl rfl rfl rfl) rfl rfl ?_
    refine W.op (v := .int .i64 (((B e9.tx).length : Nat) : Int)) (fr1 := ⟨[_, _, _, _, _, _, _, _, _, _, _, _, _, _, _, _, _, _, _, _, _, _, _, _, _, _, _, _, _, _, _, _, _, _, _, _, _, _, _, _, .int .i64 (((B e9.tx).length : Nat) : Int), _, _, _, _, _, _, _, _, _], []⟩) rfl rfl rfl rfl ?_
    refine W.op (v := .pointer (some ⟨N11, 1, none⟩)) (fr1 := ⟨[_, _, _, _, _, _, _, _, _, _, _, _, _, _, _, _, _, _, _, _, _, _, _, _, _, _, _, _, _, _, _, _, _, _, _, _, _, _, _, _, _, .pointer (some ⟨N11, 1, none⟩), _, _, _, _, _, _, _, _], []⟩) rfl rfl rfl rfl ?_
    refine W.op (v := .int .i64 e9.hi) (fr1 := ⟨[_, _, _, _, _, _, _, _, _, _, _, _, _, _, _, _, _, _, _, _, _, _, _, _, _, _, _, _, _, _, _, _, _, _, _, _, _, _, _, _, _, _, .int .i64 e9.hi, _, _, _, _, _, _, _], []⟩) rfl (p_load1 r43 rfl rfl rfl rfl) rfl rfl ?_
    refine W.op (v := .pointer (some ⟨N11, 0, none⟩)) (fr1 := ⟨[_, _, _, _, _, _, _, _, _, _, _, _, _, _, _, _, _, _, _, _, _, _, _, _, _, _, _, _, _, _, _, _, _, _, _, _, _, _, _, _, _, _, _, .pointer (some ⟨N11, 0, none⟩), _, _, _, _, _, _], []⟩) rfl rfl rfl rfl ?_
    refine W.op (v := .int .i64 e9.lo) (fr1 := ⟨[_, _, _, _, _, _, _, _, _, _, _, _, _, _, _, _, _, _, _, _, _, _, _, _, _, _, _, _, _, _, _, _, _, _, _, _, _, _, _, _, _, _, _, _, .int .i64 e9.lo, _, _, _, _, _], []⟩) rfl (p_load1 r43 rfl rfl rfl rfl) rfl rfl ?_
    refine W.op (v := .int .i64 (W (e9.hi - e9.lo))) (fr1 := ⟨[_, _, _, _, _, _, _, _, _, _, _, _, _, _, _, _, _, _, _, _, _, _, _, _, _, _, _, _, _, _, _, _, _, _, _, _, _, _, _, _, _, _, _, _, _, .int .i64 (W (e9.hi - e9.lo)), _, _, _, _], []⟩) rfl (p_bin subW) rfl rfl ?_
    refine W.op (v := .int .i64 (W ((((B e9.tx).length : Nat) : Int) - W (e9.hi - e9.lo)))) (fr1 := ⟨[_, _, _, _, _, _, _, _, _, _, _, _, _, _, _, _, _, _, _, _, _, _, _, _, _, _, _, _, _, _, _, _, _, _, _, _, _, _, _, _, _, _, _, _, _, _, .int .i64 (W ((((B e9.tx).length : Nat) : Int) - W (e9.hi - e9.lo))), _, _, _], []⟩) rfl (p_bin subW) rfl rfl ?_
    refine W.op (v := .int .i64 ((spanF (l.take (i + 1))).2)) (fr1 := ⟨[_, _, _, _, _, _, _, _, _, _, _, _, _, _, _, _, _, _, _, _, _, _, _, _, _, _, _, _, _, _, _, _, _, _, _, _, _, _, _, _, _, _, _, _, _, _, _, .int .i64 ((spanF (l.take (i + 1))).2), _, _], []⟩) rfl (p_bin (addW.trans (congrArg (fun z => some (Value.int IntKind.i64 z)) (by rw [spanF_step he10]; rfl)))) rfl rfl ?_
    refine W.op (v := .int .i64 ((spanF (l.take (i + 1))).2)) (fr1 := ⟨[_, _, _, _, _, _, _, .int .i64 ((spanF (l.take (i + 1))).2), _, _, _, _, _, _, _, _, _, _, _, _, _, _, _, _, _, _, _, _, _, _, _, _, _, _, _, _, _, _, _, _, _, _, _, _, _, _, _, _, _, _], []⟩) rfl rfl rfl rfl ?_
    refine EndsOps.nil ?_
    refine Ends.region ?_
    refine W.op (v := .int .i64 ((i + 1 : Nat) : Int)) (fr1 := ⟨[_, _, _, _, _, _, _, _, _, _, _, _, _, _, _, _, _, _, _, _, _, _, _, _, _, _, _, _, _, _, _, _, _, _, _, _, _, _, _, _, _, _, _, _, _, _, _, _, .int .i64 ((i + 1 : Nat) : Int), _], []⟩) rfl (p_bin (addI (by omega) (by omega) (by omega))) rfl rfl ?_
    refine W.op (v := .int .i64 ((i + 1 : Nat) : Int)) (fr1 := ⟨[_, _, _, _, _, _, _, _, _, _, _, _, _, _, _, _, _, .int .i64 ((i + 1 : Nat) : Int), _, _, _, _, _, _, _, _, _, _, _, _, _, _, _, _, _, _, _, _, _, _, _, _, _, _, _, _, _, _, _, _], []⟩) rfl rfl rfl rfl ?_
    refine EndsOps.nil ?_
    exact ⟨_, (by omega), i + 1, v37, _, _, _, _, _, _, _, _, _, _, _, _, _, _, _, _, _, _, _, _, _, _, _, _, _, _, _, _, _, _, _, _, rfl, hO39, rfl, (by rw [spanF_step he10]; exact hol42), by omega⟩
  · skip
    refine W.op (v := .bool false) (fr1 := ⟨[_, _, _, _, _, _, _, _, _, _, _, _, _, _, _, _, _, _, .bool false, _, _, _, _, _, _, _, _, _, _, _, _, _, _, _, _, _, _, _, _, _, _, _, _, _, _, _, _, _, _, _], []⟩) rfl (p_bin (ltF h8)) rfl rfl ?_
    refine EndsOps.nil ?_
    refine Ends.seq ?_
    refine Ends.condF rfl ?_
    refine Ends.exit ?_
    refine W.outT rfl ?_
    refine Ends.seq ?_
    refine Ends.region ?_
    refine W.op (v := v) (fr1 := ⟨[_, _, _, _, _, _, _, _, _, _, _, _, _, _, _, _, _, _, _, _, _, _, _, _, _, _, _, _, _, _, _, _, _, _, _, _, _, _, _, _, _, _, _, _, _, _, _, _, _, v], []⟩) rfl rfl rfl rfl ?_
    refine W.op (v := v) (fr1 := ⟨[_, _, _, _, v, _, _, _, _, _, _, _, _, _, _, _, _, _, _, _, _, _, _, _, _, _, _, _, _, _, _, _, _, _, _, _, _, _, _, _, _, _, _, _, _, _, _, _, _, _], []⟩) rfl rfl rfl rfl ?_
    refine W.op (v := .nilIface) (fr1 := ⟨[_, _, _, _, _, .nilIface, _, _, _, _, _, _, _, _, _, _, _, _, _, _, _, _, _, _, _, _, _, _, _, _, _, _, _, _, _, _, _, _, _, _, _, _, _, _, _, _, _, _, _, _], []⟩) rfl rfl rfl rfl ?_
    refine EndsOps.nil ?_
    refine Ends.ret ?_
    exact ⟨rfl, rfl, hO5, ⟨_, rfl, (by have ge : i = l.length := (by omega); subst ge; have h := hol7; simpa [spansS, valOf] using h)⟩⟩

theorem c21F (al : Option Addr) (l : List Ed) (cl Nl ol : Nat) (vl : List Value) (yl zl : Nat) (n : Int) (hR : ¬ Right l n) (s : St) (Hl : Sl Ed.cells 3 s.t s.next al l Nl ol vl yl zl)  : EndsPure R1.T 21 [.slice al l.length cl, .int .i64 n] s (fun v _ _ => v = .tuple ⟨[.slice none 0 0, .iface 37 (.int .i64 2)]⟩) := by
  refine EndsPure.of (rs := [4, 5]) (fr0 := ⟨[.slice al l.length cl, .int .i64 n, undef, undef, undef, undef, undef, undef, undef, undef, undef, undef, undef, undef, undef, undef, undef, undef, undef, undef, undef, undef, undef, undef, undef, undef, undef, undef, undef, undef, undef, undef, undef, undef, undef, undef, undef, undef, undef, undef, undef, undef, undef, undef, undef, undef, undef, undef, undef, undef], []⟩) (by kernel_rfl : R1.T.fn 21 = some ⟨50, (Try.f21.body).getD .skip, [.tmp 4, .tmp 5]⟩) rfl ?_
  have hO0 := Own.refl s
  have Ml := Hl.small
  simp only [Try.f21, Option.getD]
  refine Ends.seq ?_
  refine Ends.region ?_
  refine W.op (v := .slice none 0 0) (fr1 := ⟨[_, _, _, _, .slice none 0 0, _, _, _, _, _, _, _, _, _, _, _, _, _, _, _, _, _, _, _, _, _, _, _, _, _, _, _, _, _, _, _, _, _, _, _, _, _, _, _, _, _, _, _, _, _], []⟩) rfl rfl rfl rfl ?_
  refine W.op (v := .nilIface) (fr1 := ⟨[_, _, _, _, _, .nilIface, _, _, _, _, _, _, _, _, _, _, _, _, _, _, _, _, _, _, _, _, _, _, _, _, _, _, _, _, _, _, _, _, _, _, _, _, _, _, _, _, _, _, _, _], []⟩) rfl rfl rfl rfl ?_
  refine EndsOps.nil ?_
  refine Ends.seq ?_
  refine Ends.seq ?_
  refine Ends.region ?_
  refine W.op (v := .slice al l.length cl) (fr1 := ⟨[_, _, _, _, _, _, _, _, _, _, .slice al l.length cl, _, _, _, _, _, _, _, _, _, _, _, _, _, _, _, _, _, _, _, _, _, _, _, _, _, _, _, _, _, _, _, _, _, _, _, _, _, _, _], []⟩) rfl rfl rfl rfl ?_
  refine W.op (v := .int .i64 n) (fr1 := ⟨[_, _, _, _, _, _, _, _, _, _, _, .int .i64 n, _, _, _, _, _, _, _, _, _, _, _, _, _, _, _, _, _, _, _, _, _, _, _, _, _, _, _, _, _, _, _, _, _, _, _, _, _, _], []⟩) rfl rfl rfl rfl ?_
  refine W.call (ar := [.slice al l.length cl, .int .i64 n]) (X := .bool false) (fr1 := ⟨[_, _, _, _, _, _, _, _, _, _, _, _, .bool false, _, _, _, _, _, _, _, _, _, _, _, _, _, _, _, _, _, _, _, _, _, _, _, _, _, _, _, _, _, _, _, _, _, _, _, _, _], []⟩) hO0 rfl rfl rfl rfl ((c35 _ _ _ _ _ _ _ _ n _ (Hl.own hO0)).mono fun v _ _ h => h.trans (congrArg Value.bool (decide_eq_false hR))) rfl ?_
  intro s1 hO2 hS3
  refine W.op (v := .bool true) (fr1 := ⟨[_, _, _, _, _, _, _, _, _, _, _, _, _, .bool true, _, _, _, _, _, _, _, _, _, _, _, _, _, _, _, _, _, _, _, _, _, _, _, _, _, _, _, _, _, _, _, _, _, _, _, _], []⟩) rfl rfl rfl rfl ?_
  refine EndsOps.nil ?_
  refine Ends.condT rfl ?_
  refine Ends.seq ?_
  refine Ends.region ?_
  refine W.op (v := .iface 37 (.int .i64 2)) (fr1 := ⟨[_, _, _, _, _, _, _, _, _, _, _, _, _, _, .iface 37 (.int .i64 2), _, _, _, _, _, _, _, _, _, _, _, _, _, _, _, _, _, _, _, _, _, _, _, _, _, _, _, _, _, _, _, _, _, _, _], []⟩) rfl rfl rfl rfl ?_
  refine W.op (v := .slice none 0 0) (fr1 := ⟨[_, _, _, _, .slice none 0 0, _, _, _, _, _, _, _, _, _, _, _, _, _, _, _, _, _, _, _, _, _, _, _, _, _, _, _, _, _, _, _, _, _, _, _, _, _, _, _, _, _, _, _, _, _], []⟩) rfl rfl rfl rfl ?_
  refine W.op (v := .iface 37 (.int .i64 2)) (fr1 := ⟨[_, _, _, _, _, .iface 37 (.int .i64 2), _, _, _, _, _, _, _, _, _, _, _, _, _, _, _, _, _, _, _, _, _, _, _, _, _, _, _, _, _, _, _, _, _, _, _, _, _, _, _, _, _, _, _, _], []⟩) rfl rfl rfl rfl ?_
  refine EndsOps.nil ?_
  refine Ends.ret ?_
  exact ⟨rfl, rfl, hO2, by
    show Value.tuple ⟨[.slice none 0 0, .iface 37 (.int .i64 2)]⟩ = Value.tuple ⟨[.slice none 0 0, .iface 37 (.int .i64 2)]⟩
    rfl⟩

theorem c25 (al : Option Addr) (l : List Ed) (cl Nl ol : Nat) (vl : List Value) (yl zl : Nat) (hB : l.length ≤ 1000) (C : Cp 3 al l.length cl) (s : St) (Hl : Sl Ed.cells 3 s.t s.next al l Nl ol vl yl zl)  : EndsPure R1.T 25 [.slice al l.length cl] s (fun v t m => OL Sp.cells 2 39 s.next t m v (spansS l)) := by
  refine EndsPure.of (rs := [2]) (fr0 := ⟨[.slice al l.length cl, undef, undef, undef, undef, undef, undef, undef, undef, undef, undef, undef, undef, undef, undef, undef, undef, undef, undef, undef, undef, undef, undef, undef, undef, undef, undef, undef, undef, undef, undef, undef, undef, undef, undef, undef], []⟩) (by kernel_rfl : R1.T.fn 25 = some ⟨36, (Try.f25.body).getD .skip, [.tmp 2]⟩) rfl ?_
  have hO0 := Own.refl s
  have Ml := Hl.small
  simp only [Try.f25, Option.getD]
  refine Ends.seq ?_
  refine Ends.region ?_
  refine W.op (v := .slice none 0 0) (fr1 := ⟨[_, _, .slice none 0 0, _, _, _, _, _, _, _, _, _, _, _, _, _, _, _, _, _, _, _, _, _, _, _, _, _, _, _, _, _, _, _, _, _], []⟩) rfl rfl rfl rfl ?_
  refine EndsOps.nil ?_
  refine Ends.seq ?_
  refine Ends.region ?_
  refine W.op (v := .slice none 0 0) (fr1 := ⟨[_, _, _, .slice none 0 0, _, _, _, _, _, _, _, _, _, _, _, _, _, _, _, _, _, _, _, _, _, _, _, _, _, _, _, _, _, _, _, _], []⟩) rfl rfl rfl rfl ?_
  refine EndsOps.nil ?_
  refine Ends.seq ?_
  refine Ends.seq ?_
  refine Ends.region ?_
  refine W.op (v := .int .i64 0) (fr1 := ⟨[_, _, _, _, .int .i64 0, _, _, _, _, _, _, _, _, _, _, _, _, _, _, _, _, _, _, _, _, _, _, _, _, _, _, _, _, _, _, _], []⟩) rfl rfl rfl rfl ?_
  refine EndsOps.nil ?_
  refine W.block ?_
  refine Ends.loopInv (fun d fr s1 => ∃ (i : Nat) (v : Value) (j5 j6 j7 j8 j9 j10 j11 j12 j13 j14 j15 j16 j17 j18 j19 j20 j21 j22 j23 j24 j25 j26 j27 j28 j29 j30 j31 j32 j33 j34 : Value), fr = ⟨[.slice al l.length cl, undef, .slice none 0 0, v, .int .i64 ((i : Nat) : Int), j5, j6, j7, j8, j9, j10, j11, j12, j13, j14, j15, j16, j17, j18, j19, j20, j21, j22, j23, j24, j25, j26, j27, j28, j29, j30, j31, j32, j33, j34, undef], []⟩ ∧ Own s s1 ∧ d = l.length - i ∧ (OL Sp.cells 2 39 s.next s1.t s1.next v ((spanF (l.take i)).1)) ∧ (i ≤ l.length)) ?_ _ _ _ ⟨0, .slice none 0 0, _, _, _, _, _, _, _, _, _, _, _, _, _, _, _, _, _, _, _, _, _, _, _, _, _, _, _, _, _, _, rfl, hO0, rfl, OL.nil, Nat.zero_le _⟩
  rintro d _ s1 ⟨i, v, j5, j6, j7, j8, j9, j10, j11, j12, j13, j14, j15, j16, j17, j18, j19, j20, j21, j22, j23, j24, j25, j26, j27, j28, j29, j30, j31, j32, j33, j34, rfl, hO2, hd3, hol4, hi⟩
  have gl : (spanF (l.take i)).1.length = i := spanF_len' hi
  refine Ends.seq ?_
  refine Ends.seq ?_
  refine Ends.region ?_
  refine W.op (v := .int .i64 ((i : Nat) : Int)) (fr1 := ⟨[_, _, _, _, _, _, .int .i64 ((i : Nat) : Int), _, _, _, _, _, _, _, _, _, _, _, _, _, _, _, _, _, _, _, _, _, _, _, _, _, _, _, _, _], []⟩) rfl rfl rfl rfl ?_
  refine W.op (v := .slice al l.length cl) (fr1 := ⟨[_, _, _, _, _, _, _, .slice al l.length cl, _, _, _, _, _, _, _, _, _, _, _, _, _, _, _, _, _, _, _, _, _, _, _, _, _, _, _, _], []⟩) rfl rfl rfl rfl ?_
  refine W.op (v := .int .i64 ((l.length : Nat) : Int)) (fr1 := ⟨[_, _, _, _, _, _, _, _, .int .i64 ((l.length : Nat) : Int), _, _, _, _, _, _, _, _, _, _, _, _, _, _, _, _, _, _, _, _, _, _, _, _, _, _, _], []⟩) rfl rfl rfl rfl ?_
  by_cases h5 : ((i : Nat) : Int) < ((l.length : Nat) : Int)
  · skip
    refine W.op (v := .bool true) (fr1 := ⟨[_, _, _, _, _, _, _, _, _, .bool true, _, _, _, _, _, _, _, _, _, _, _, _, _, _, _, _, _, _, _, _, _, _, _, _, _, _], []⟩) rfl (p_bin (ltT h5)) rfl rfl ?_
    refine EndsOps.nil ?_
    refine Ends.condT rfl ?_
    refine Ends.skip ?_
    refine Ends.seq ?_
    refine W.block ?_
    refine Ends.seq ?_
    refine Ends.drawW (bef := [0, 0, 3, 7, 15, 0, 0, 96, 224, 511, 1023]) (by kernel_rfl) ?_
    refine D.op (v := .slice al l.length cl) (fr1 := ⟨[_, _, _, _, _, _, _, _, _, _, _, _, .slice al l.length cl, _, _, _, _, _, _, _, _, _, _, _, _, _, _, _, _, _, _, _, _, _, _, _], []⟩) rfl rfl rfl rfl rfl ?_
    refine D.op (v := .int .i64 ((i : Nat) : Int)) (fr1 := ⟨[_, _, _, _, _, _, _, _, _, _, _, _, _, .int .i64 ((i : Nat) : Int), _, _, _, _, _, _, _, _, _, _, _, _, _, _, _, _, _, _, _, _, _, _], []⟩) rfl rfl rfl rfl rfl ?_
    obtain ⟨e6, he7⟩ := ex_at (l := l) (i := i) (by omega)
    refine D.op (v := .pointer (some ⟨Nl, ol + i * 3, none⟩)) (fr1 := ⟨[_, _, _, _, _, _, _, _, _, _, _, _, _, _, .pointer (some ⟨Nl, ol + i * 3, none⟩), _, _, _, _, _, _, _, _, _, _, _, _, _, _, _, _, _, _, _, _, _], []⟩) rfl (p_ix (Sl.ix Hl rfl rfl he7 _)) rfl rfl rfl ?_
    refine D.op (v := .pointer (some ⟨Nl, ol + i * 3 + 0, none⟩)) (fr1 := ⟨[_, _, _, _, _, _, _, _, _, _, _, _, _, _, _, .pointer (some ⟨Nl, ol + i * 3 + 0, none⟩), _, _, _, _, _, _, _, _, _, _, _, _, _, _, _, _, _, _, _, _], []⟩) rfl rfl rfl rfl rfl ?_
    refine D.load (v := .int .i64 e6.lo) (fr1 := ⟨[_, _, _, _, _, _, _, _, _, _, _, _, _, _, _, _, .int .i64 e6.lo, _, _, _, _, _, _, _, _, _, _, _, _, _, _, _, _, _, _, _], []⟩) rfl rfl rfl (fun _ h => by cases h) (fun s1 hg => (p_load1 ⟨hg.trans ((Sl.row' (Hl.own hO2) he7)).get, ((Sl.row' (Hl.own hO2) he7)).lt⟩ rfl rfl rfl ((Hl.own hO2).at (j := 0) he7 rfl))) rfl ?_
    refine D.op (v := .slice al l.length cl) (fr1 := ⟨[_, _, _, _, _, _, _, _, _, _, _, _, _, _, _, _, _, .slice al l.length cl, _, _, _, _, _, _, _, _, _, _, _, _, _, _, _, _, _, _], []⟩) rfl rfl rfl rfl rfl ?_
    refine D.op (v := .int .i64 ((i : Nat) : Int)) (fr1 := ⟨[_, _, _, _, _, _, _, _, _, _, _, _, _, _, _, _, _, _, .int .i64 ((i : Nat) : Int), _, _, _, _, _, _, _, _, _, _, _, _, _, _, _, _, _], []⟩) rfl rfl rfl rfl rfl ?_
    refine D.op (v := .slice al ((l.take i).length) cl) (fr1 := ⟨[_, _, _, _, _, _, _, _, _, _, _, _, _, _, _, _, _, _, _, .slice al ((l.take i).length) cl, _, _, _, _, _, _, _, _, _, _, _, _, _, _, _, _], []⟩) rfl (p_takeTo rfl rfl rfl rfl C (by omega)) rfl rfl rfl ?_
    have gS8 := ((Hl.take i).own hO2)
    refine D.call (ar := [.slice al ((l.take i).length) cl]) (X := .int .i64 (W (growS (l.take i)))) (fr1 := ⟨[_, _, _, _, _, _, _, _, _, _, _, _, _, _, _, _, _, _, _, _, .int .i64 (W (growS (l.take i))), _, _, _, _, _, _, _, _, _, _, _, _, _, _, _], []⟩) hO2 rfl rfl rfl rfl rfl (c38 _ _ _ _ _ _ _ _ _ gS8) rfl ?_
    intro s9 hO10 hS11
    have hE12 := (Own.refl s1).trans hS11
    refine D.op (v := .int .i64 (W (e6.lo + (spanF (l.take i)).2))) (fr1 := ⟨[_, _, _, _, _, _, _, _, _, _, _, _, _, _, _, _, _, _, _, _, _, .int .i64 (W (e6.lo + (spanF (l.take i)).2)), _, _, _, _, _, _, _, _, _, _, _, _, _, _], []⟩) rfl (p_bin (addW.trans (congrArg (fun z => some (Value.int IntKind.i64 z)) (by rw [spanF_by (by omega)])))) rfl rfl rfl ?_
    refine D.op (v := .int .i64 (W (e6.lo + (spanF (l.take i)).2))) (fr1 := ⟨[_, _, _, _, _, .int .i64 (W (e6.lo + (spanF (l.take i)).2)), _, _, _, _, _, _, _, _, _, _, _, _, _, _, _, _, _, _, _, _, _, _, _, _, _, _, _, _, _, _], []⟩) rfl rfl rfl rfl rfl ?_
    refine D.nil ?_
    refine Ends.region ?_
    refine W.op (v := v) (fr1 := ⟨[_, _, _, _, _, _, _, _, _, _, _, _, _, _, _, _, _, _, _, _, _, _, v, _, _, _, _, _, _, _, _, _, _, _, _, _], []⟩) rfl rfl rfl rfl ?_
    refine W.op (v := .int .i64 (W (e6.lo + (spanF (l.take i)).2))) (fr1 := ⟨[_, _, _, _, _, _, _, _, _, _, _, _, _, _, _, _, _, _, _, _, _, _, _, .int .i64 (W (e6.lo + (spanF (l.take i)).2)), _, _, _, _, _, _, _, _, _, _, _, _], []⟩) rfl rfl rfl rfl ?_
    refine W.op (v := .int .i64 (W (e6.lo + (spanF (l.take i)).2))) (fr1 := ⟨[_, _, _, _, _, _, _, _, _, _, _, _, _, _, _, _, _, _, _, _, _, _, _, _, .int .i64 (W (e6.lo + (spanF (l.take i)).2)), _, _, _, _, _, _, _, _, _, _, _], []⟩) rfl rfl rfl rfl ?_
    refine W.op (v := .slice al l.length cl) (fr1 := ⟨[_, _, _, _, _, _, _, _, _, _, _, _, _, _, _, _, _, _, _, _, _, _, _, _, _, .slice al l.length cl, _, _, _, _, _, _, _, _, _, _], []⟩) rfl rfl rfl rfl ?_
    refine W.op (v := .int .i64 ((i : Nat) : Int)) (fr1 := ⟨[_, _, _, _, _, _, _, _, _, _, _, _, _, _, _, _, _, _, _, _, _, _, _, _, _, _, .int .i64 ((i : Nat) : Int), _, _, _, _, _, _, _, _, _], []⟩) rfl rfl rfl rfl ?_
    refine W.op (v := .pointer (some ⟨Nl, ol + i * 3, none⟩)) (fr1 := ⟨[_, _, _, _, _, _, _, _, _, _, _, _, _, _, _, _, _, _, _, _, _, _, _, _, _, _, _, .pointer (some ⟨Nl, ol + i * 3, none⟩), _, _, _, _, _, _, _, _], []⟩) rfl (p_ix (Sl.ix Hl rfl rfl he7 _)) rfl rfl ?_
    refine W.op (v := .pointer (some ⟨Nl, ol + i * 3 + 2, none⟩)) (fr1 := ⟨[_, _, _, _, _, _, _, _, _, _, _, _, _, _, _, _, _, _, _, _, _, _, _, _, _, _, _, _, .pointer (some ⟨Nl, ol + i * 3 + 2, none⟩), _, _, _, _, _, _, _], []⟩) rfl rfl rfl rfl ?_
    refine W.op (v := .string e6.tx) (fr1 := ⟨[_, _, _, _, _, _, _, _, _, _, _, _, _, _, _, _, _, _, _, _, _, _, _, _, _, _, _, _, _, .string e6.tx, _, _, _, _, _, _], []⟩) rfl (p_load1 (Sl.row' (Hl.own hO10) he7) rfl rfl rfl ((Hl.own hO10).at (j := 2) he7 rfl)) rfl rfl ?_
    refine W.op (v := .int .i64 (((B e6.tx).length : Nat) : Int)) (fr1 := ⟨[_, _, _, _, _, _, _, _, _, _, _, _, _, _, _, _, _, _, _, _, _, _, _, _, _, _, _, _, _, _, .int .i64 (((B e6.tx).length : Nat) : Int), _, _, _, _, _], []⟩) rfl rfl rfl rfl ?_
    refine W.op (v := .int .i64 (W (W (e6.lo + (spanF (l.take i)).2) + (((B e6.tx).length : Nat) : Int)))) (fr1 := ⟨[_, _, _, _, _, _, _, _, _, _, _, _, _, _, _, _, _, _, _, _, _, _, _, _, _, _, _, _, _, _, _, .int .i64 (W (W (e6.lo + (spanF (l.take i)).2) + (((B e6.tx).length : Nat) : Int))), _, _, _, _], []⟩) rfl (p_bin addW) rfl rfl ?_
    refine W.op (v := .agg ⟨[.int .i64 (W (e6.lo + (spanF (l.take i)).2)), .int .i64 (W (W (e6.lo + (spanF (l.take i)).2) + (((B e6.tx).length : Nat) : Int)))]⟩) (fr1 := ⟨[_, _, _, _, _, _, _, _, _, _, _, _, _, _, _, _, _, _, _, _, _, _, _, _, _, _, _, _, _, _, _, _, .agg ⟨[.int .i64 (W (e6.lo + (spanF (l.take i)).2)), .int .i64 (W (W (e6.lo + (spanF (l.take i)).2) + (((B e6.tx).length : Nat) : Int)))]⟩, _, _, _], []⟩) rfl rfl rfl rfl ?_
    obtain ⟨N13, hN14⟩ : ∃ N, N = s9.next := ⟨_, rfl⟩
    have hb15 : s1.next ≤ N13 := hN14 ▸ hE12.next
    refine W.newS (N := N13) (vs := [.int .i64 (W (e6.lo + (spanF (l.take i)).2)), .int .i64 (W (W (e6.lo + (spanF (l.take i)).2) + (((B e6.tx).length : Nat) : Int)))]) (fr1 := ⟨[_, _, _, _, _, _, _, _, _, _, _, _, _, _, _, _, _, _, _, _, _, _, _, _, _, _, _, _, _, _, _, _, _, .slice (some ⟨N13, 0, none⟩) 1 1, _, _], []⟩) hO10 hN14 rfl (p_bs rfl rfl zero39 rfl (by decide) rfl rfl) rfl rfl ?_
    intro s16 hO17 hS18 r19 hB20
    have hE21 := hE12.trans hS18
    refine W.append (c := Sp.cells) (l := ((spanF (l.take i)).1)) (x := ⟨W (e6.lo + (spanF (l.take i)).2), W (W (e6.lo + (spanF (l.take i)).2) + (((B e6.tx).length : Nat) : Int))⟩) (fF := fun v22 => ⟨[_, _, _, _, _, _, _, _, _, _, _, _, _, _, _, _, _, _, _, _, _, _, _, _, _, _, _, _, _, _, _, _, _, _, v22, _], []⟩) app31 (fun _ => rfl) (by exact Sp.one) hO17 hE21 hol4 r19 rfl rfl rfl rfl (by omega) (by omega) (fun _ => rfl) ?_
    intro v22 s23 hO24 hnx25 hu26 hol27
    have r28 : Row s23.t s23.next _ _ _ _ := ⟨(hu26 _ hb15 r19.lt).trans r19.get, Nat.lt_of_lt_of_le r19.lt hnx25⟩
    refine W.op (v := v22) (fr1 := ⟨[_, _, _, v22, _, _, _, _, _, _, _, _, _, _, _, _, _, _, _, _, _, _, _, _, _, _, _, _, _, _, _, _, _, _, _, _], []⟩) rfl rfl rfl rfl ?_
    refine EndsOps.nil ?_
    refine Ends.region ?_
    refine W.op (v := .int .i64 ((i : Nat) : Int)) (fr1 := ⟨[_, _, _, _, _, _, _, _, _, _, .int .i64 ((i : Nat) : Int), _, _, _, _, _, _, _, _, _, _, _, _, _, _, _, _, _, _, _, _, _, _, _, _, _], []⟩) rfl rfl rfl rfl ?_
    refine W.op (v := .int .i64 ((i + 1 : Nat) : Int)) (fr1 := ⟨[_, _, _, _, _, _, _, _, _, _, _, .int .i64 ((i + 1 : Nat) : Int), _, _, _, _, _, _, _, _, _, _, _, _, _, _, _, _, _, _, _, _, _, _, _, _], []⟩) rfl (p_bin (addI (by omega) (by omega) (by omega))) rfl rfl ?_
    refine W.op (v := .int .i64 ((i + 1 : Nat) : Int)) (fr1 := ⟨[_, _, _, _, .int .i64 ((i + 1 : Nat) : Int), _, _, _, _, _, _, _, _, _, _, _, _, _, _, _, _, _, _, _, _, _, _, _, _, _, _, _, _, _, _, _], []⟩) rfl rfl rfl rfl ?_
    refine EndsOps.nil ?_
    exact ⟨_, (by omega), i + 1, v22, _, _, _, _, _, _, _, _, _, _, _, _, _, _, _, _, _, _, _, _, _, _, _, _, _, _, _, _, _, _, rfl, hO24, rfl, (by rw [spanF_step he7]; exact hol27), by omega⟩
  · skip
    refine W.op (v := .bool false) (fr1 := ⟨[_, _, _, _, _, _, _, _, _, .bool false, _, _, _, _, _, _, _, _, _, _, _, _, _, _, _, _, _, _, _, _, _, _, _, _, _, _], []⟩) rfl (p_bin (ltF h5)) rfl rfl ?_
    refine EndsOps.nil ?_
    refine Ends.condF rfl ?_
    refine Ends.exit ?_
    refine W.outT rfl ?_
    refine Ends.seq ?_
    refine Ends.region ?_
    refine W.op (v := v) (fr1 := ⟨[_, _, _, _, _, _, _, _, _, _, _, _, _, _, _, _, _, _, _, _, _, _, _, _, _, _, _, _, _, _, _, _, _, _, _, v], []⟩) rfl rfl rfl rfl ?_
    refine W.op (v := v) (fr1 := ⟨[_, _, v, _, _, _, _, _, _, _, _, _, _, _, _, _, _, _, _, _, _, _, _, _, _, _, _, _, _, _, _, _, _, _, _, _], []⟩) rfl rfl rfl rfl ?_
    refine EndsOps.nil ?_
    refine Ends.ret ?_
    exact ⟨rfl, rfl, hO2, (by have ge : i = l.length := (by omega); subst ge; have h := hol4; simpa [spansS, valOf] using h)⟩
end Go.Ev.R1
