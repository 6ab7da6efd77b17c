/-
  EV: contracts of the first seat's functions.
-/
import Derived.Test.YtelpkdjibjddlaaEvSpec
import Derived.Test.YtelpkdjibjddlaaEvR1
set_option linter.unusedSimpArgs false
set_option linter.unusedVariables false
namespace Go.Ev.R1
open Go Go.Ev Go.Proofs
set_option maxRecDepth 10000

theorem zero97 : R1.T.zero 97 = some (.agg ⟨[.int .i64 0, .int .i64 0, .string ByteArray.empty]⟩) := by kernel_rfl

theorem c73 (e : Ed) (n : Int) (s : St) : EndsPure R1.T 73 [.agg ⟨[.int .i64 e.lo, .int .i64 e.hi, .string e.tx]⟩, .int .i64 n] s (fun v _ _ => v = .bool (decide (Within e n))) := by
  refine EndsPure.of (rs := [4]) (fr0 := ⟨[.agg ⟨[.int .i64 e.lo, .int .i64 e.hi, .string e.tx]⟩, .int .i64 n, undef, undef, undef, undef, undef, undef, undef, undef, undef, undef, undef, undef, undef, undef, undef, undef, undef, undef, undef], []⟩) (by kernel_rfl : R1.T.fn 73 = some ⟨21, (Try.f73.body).getD .skip, [.tmp 4]⟩) rfl ?_
  have hO0 := Own.refl s
  simp only [Try.f73, Option.getD]
  refine Ends.seq ?_
  refine Ends.region ?_
  obtain ⟨N1, hN2⟩ : ∃ N, N = s.next := ⟨_, rfl⟩
  refine W.new (N := N1) (vs := [.int .i64 e.lo, .int .i64 e.hi, .string e.tx]) (fr1 := ⟨[_, _, .pointer (some ⟨N1, 0, none⟩), _, _, _, _, _, _, _, _, _, _, _, _, _, _, _, _, _, _], []⟩) hO0 hN2 rfl (p_box rfl) rfl rfl ?_
  intro s3 hO4 hS5 r6 hB7
  refine W.op (v := .bool false) (fr1 := ⟨[_, _, _, _, .bool false, _, _, _, _, _, _, _, _, _, _, _, _, _, _, _, _], []⟩) rfl rfl rfl rfl ?_
  refine EndsOps.nil ?_
  refine Ends.seq ?_
  refine Ends.region ?_
  refine W.op (v := .pointer (some ⟨N1, 0, none⟩)) (fr1 := ⟨[_, _, _, _, _, .pointer (some ⟨N1, 0, none⟩), _, _, _, _, _, _, _, _, _, _, _, _, _, _, _], []⟩) rfl rfl rfl rfl ?_
  refine W.op (v := .int .i64 e.lo) (fr1 := ⟨[_, _, _, _, _, _, .int .i64 e.lo, _, _, _, _, _, _, _, _, _, _, _, _, _, _], []⟩) rfl (p_load1 r6 rfl rfl rfl rfl) rfl rfl ?_
  by_cases h8 : (0 : Int) ≤ e.lo
  · skip
    refine W.op (v := .bool true) (fr1 := ⟨[_, _, _, _, _, _, _, .bool true, _, _, _, _, _, _, _, _, _, _, _, _, _], []⟩) rfl (p_bin (geT h8)) rfl rfl ?_
    refine W.op (v := .bool true) (fr1 := ⟨[_, _, _, _, _, _, _, _, .bool true, _, _, _, _, _, _, _, _, _, _, _, _], []⟩) rfl rfl rfl rfl ?_
    refine W.op (v := .pointer (some ⟨N1, 0, none⟩)) (fr1 := ⟨[_, _, _, _, _, _, _, _, _, .pointer (some ⟨N1, 0, none⟩), _, _, _, _, _, _, _, _, _, _, _], []⟩) rfl rfl rfl rfl ?_
    refine W.op (v := .int .i64 e.lo) (fr1 := ⟨[_, _, _, _, _, _, _, _, _, _, .int .i64 e.lo, _, _, _, _, _, _, _, _, _, _], []⟩) rfl (p_load1 r6 rfl rfl rfl rfl) rfl rfl ?_
    refine W.op (v := .pointer (some ⟨N1, 1, none⟩)) (fr1 := ⟨[_, _, _, _, _, _, _, _, _, _, _, .pointer (some ⟨N1, 1, none⟩), _, _, _, _, _, _, _, _, _], []⟩) rfl rfl rfl rfl ?_
    refine W.op (v := .int .i64 e.hi) (fr1 := ⟨[_, _, _, _, _, _, _, _, _, _, _, _, .int .i64 e.hi, _, _, _, _, _, _, _, _], []⟩) rfl (p_load1 r6 rfl rfl rfl rfl) rfl rfl ?_
    by_cases h9 : e.lo ≤ e.hi
    · skip
      refine W.op (v := .bool true) (fr1 := ⟨[_, _, _, _, _, _, _, _, _, _, _, _, _, .bool true, _, _, _, _, _, _, _], []⟩) rfl (p_bin (leT h9)) rfl rfl ?_
      refine W.op (v := .bool true) (fr1 := ⟨[_, _, _, _, _, _, _, _, _, _, _, _, _, _, .bool true, _, _, _, _, _, _], []⟩) rfl rfl rfl rfl ?_
      refine W.op (v := .bool true) (fr1 := ⟨[_, _, _, _, _, _, _, _, _, _, _, _, _, _, _, .bool true, _, _, _, _, _], []⟩) rfl rfl rfl rfl ?_
      refine W.op (v := .pointer (some ⟨N1, 1, none⟩)) (fr1 := ⟨[_, _, _, _, _, _, _, _, _, _, _, _, _, _, _, _, .pointer (some ⟨N1, 1, none⟩), _, _, _, _], []⟩) rfl rfl rfl rfl ?_
      refine W.op (v := .int .i64 e.hi) (fr1 := ⟨[_, _, _, _, _, _, _, _, _, _, _, _, _, _, _, _, _, .int .i64 e.hi, _, _, _], []⟩) rfl (p_load1 r6 rfl rfl rfl rfl) rfl rfl ?_
      refine W.op (v := .int .i64 n) (fr1 := ⟨[_, _, _, _, _, _, _, _, _, _, _, _, _, _, _, _, _, _, .int .i64 n, _, _], []⟩) rfl rfl rfl rfl ?_
      by_cases h10 : e.hi ≤ n
      · skip
        refine W.op (v := .bool true) (fr1 := ⟨[_, _, _, _, _, _, _, _, _, _, _, _, _, _, _, _, _, _, _, .bool true, _], []⟩) rfl (p_bin (leT h10)) rfl rfl ?_
        refine W.op (v := .bool true) (fr1 := ⟨[_, _, _, _, _, _, _, _, _, _, _, _, _, _, _, _, _, _, _, _, .bool true], []⟩) rfl rfl rfl rfl ?_
        refine W.op (v := .bool true) (fr1 := ⟨[_, _, _, _, .bool true, _, _, _, _, _, _, _, _, _, _, _, _, _, _, _, _], []⟩) rfl rfl rfl rfl ?_
        refine EndsOps.nil ?_
        refine Ends.ret ?_
        exact ⟨rfl, rfl, hO4, by
          show Value.bool true = .bool (decide (Within e n))
          simp [Within, *]⟩
      · skip
        refine W.op (v := .bool false) (fr1 := ⟨[_, _, _, _, _, _, _, _, _, _, _, _, _, _, _, _, _, _, _, .bool false, _], []⟩) rfl (p_bin (leF h10)) rfl rfl ?_
        refine W.op (v := .bool false) (fr1 := ⟨[_, _, _, _, _, _, _, _, _, _, _, _, _, _, _, _, _, _, _, _, .bool false], []⟩) rfl rfl rfl rfl ?_
        refine W.op (v := .bool false) (fr1 := ⟨[_, _, _, _, .bool false, _, _, _, _, _, _, _, _, _, _, _, _, _, _, _, _], []⟩) rfl rfl rfl rfl ?_
        refine EndsOps.nil ?_
        refine Ends.ret ?_
        exact ⟨rfl, rfl, hO4, by
          show Value.bool false = .bool (decide (Within e n))
          simp [Within, *]⟩
    · skip
      refine W.op (v := .bool false) (fr1 := ⟨[_, _, _, _, _, _, _, _, _, _, _, _, _, .bool false, _, _, _, _, _, _, _], []⟩) rfl (p_bin (leF h9)) rfl rfl ?_
      refine W.op (v := .bool false) (fr1 := ⟨[_, _, _, _, _, _, _, _, _, _, _, _, _, _, .bool false, _, _, _, _, _, _], []⟩) rfl rfl rfl rfl ?_
      refine W.op (v := .bool false) (fr1 := ⟨[_, _, _, _, _, _, _, _, _, _, _, _, _, _, _, .bool false, _, _, _, _, _], []⟩) rfl rfl rfl rfl ?_
      refine W.skip (fr1 := ⟨[_, _, _, _, _, _, _, _, _, _, _, _, _, _, _, _, undef, _, _, _, _], []⟩) rfl rfl ?_
      refine W.skip (fr1 := ⟨[_, _, _, _, _, _, _, _, _, _, _, _, _, _, _, _, _, undef, _, _, _], []⟩) rfl rfl ?_
      refine W.skip (fr1 := ⟨[_, _, _, _, _, _, _, _, _, _, _, _, _, _, _, _, _, _, undef, _, _], []⟩) rfl rfl ?_
      refine W.skip (fr1 := ⟨[_, _, _, _, _, _, _, _, _, _, _, _, _, _, _, _, _, _, _, undef, _], []⟩) rfl rfl ?_
      refine W.op (v := .bool false) (fr1 := ⟨[_, _, _, _, _, _, _, _, _, _, _, _, _, _, _, _, _, _, _, _, .bool false], []⟩) rfl rfl rfl rfl ?_
      refine W.op (v := .bool false) (fr1 := ⟨[_, _, _, _, .bool false, _, _, _, _, _, _, _, _, _, _, _, _, _, _, _, _], []⟩) rfl rfl rfl rfl ?_
      refine EndsOps.nil ?_
      refine Ends.ret ?_
      exact ⟨rfl, rfl, hO4, by
        show Value.bool false = .bool (decide (Within e n))
        simp [Within, *]⟩
  · skip
    refine W.op (v := .bool false) (fr1 := ⟨[_, _, _, _, _, _, _, .bool false, _, _, _, _, _, _, _, _, _, _, _, _, _], []⟩) rfl (p_bin (geF h8)) rfl rfl ?_
    refine W.op (v := .bool false) (fr1 := ⟨[_, _, _, _, _, _, _, _, .bool false, _, _, _, _, _, _, _, _, _, _, _, _], []⟩) rfl rfl rfl rfl ?_
    refine W.skip (fr1 := ⟨[_, _, _, _, _, _, _, _, _, undef, _, _, _, _, _, _, _, _, _, _, _], []⟩) rfl rfl ?_
    refine W.skip (fr1 := ⟨[_, _, _, _, _, _, _, _, _, _, undef, _, _, _, _, _, _, _, _, _, _], []⟩) rfl rfl ?_
    refine W.skip (fr1 := ⟨[_, _, _, _, _, _, _, _, _, _, _, undef, _, _, _, _, _, _, _, _, _], []⟩) rfl rfl ?_
    refine W.skip (fr1 := ⟨[_, _, _, _, _, _, _, _, _, _, _, _, undef, _, _, _, _, _, _, _, _], []⟩) rfl rfl ?_
    refine W.skip (fr1 := ⟨[_, _, _, _, _, _, _, _, _, _, _, _, _, undef, _, _, _, _, _, _, _], []⟩) rfl rfl ?_
    refine W.op (v := .bool false) (fr1 := ⟨[_, _, _, _, _, _, _, _, _, _, _, _, _, _, .bool false, _, _, _, _, _, _], []⟩) rfl rfl rfl rfl ?_
    refine W.op (v := .bool false) (fr1 := ⟨[_, _, _, _, _, _, _, _, _, _, _, _, _, _, _, .bool false, _, _, _, _, _], []⟩) rfl rfl rfl rfl ?_
    refine W.skip (fr1 := ⟨[_, _, _, _, _, _, _, _, _, _, _, _, _, _, _, _, undef, _, _, _, _], []⟩) rfl rfl ?_
    refine W.skip (fr1 := ⟨[_, _, _, _, _, _, _, _, _, _, _, _, _, _, _, _, _, undef, _, _, _], []⟩) rfl rfl ?_
    refine W.skip (fr1 := ⟨[_, _, _, _, _, _, _, _, _, _, _, _, _, _, _, _, _, _, undef, _, _], []⟩) rfl rfl ?_
    refine W.skip (fr1 := ⟨[_, _, _, _, _, _, _, _, _, _, _, _, _, _, _, _, _, _, _, undef, _], []⟩) rfl rfl ?_
    refine W.op (v := .bool false) (fr1 := ⟨[_, _, _, _, _, _, _, _, _, _, _, _, _, _, _, _, _, _, _, _, .bool false], []⟩) rfl rfl rfl rfl ?_
    refine W.op (v := .bool false) (fr1 := ⟨[_, _, _, _, .bool false, _, _, _, _, _, _, _, _, _, _, _, _, _, _, _, _], []⟩) rfl rfl rfl rfl ?_
    refine EndsOps.nil ?_
    refine Ends.ret ?_
    exact ⟨rfl, rfl, hO4, by
      show Value.bool false = .bool (decide (Within e n))
      simp [Within, *]⟩

theorem c67 (e : Ed) (n : Int) (s : St) : EndsPure R1.T 67 [.agg ⟨[.int .i64 e.lo, .int .i64 e.hi, .string e.tx]⟩, .int .i64 n] s (fun v _ _ => v = .bool (decide (Within e n))) := by
  refine EndsPure.of (rs := [4]) (fr0 := ⟨[.agg ⟨[.int .i64 e.lo, .int .i64 e.hi, .string e.tx]⟩, .int .i64 n, undef, undef, undef, undef, undef, undef, undef, undef, undef, undef, undef, undef, undef, undef, undef, undef, undef, undef, undef], []⟩) (by kernel_rfl : R1.T.fn 67 = some ⟨21, (Try.f67.body).getD .skip, [.tmp 4]⟩) rfl ?_
  have hO0 := Own.refl s
  simp only [Try.f67, Option.getD]
  refine Ends.seq ?_
  refine Ends.region ?_
  obtain ⟨N1, hN2⟩ : ∃ N, N = s.next := ⟨_, rfl⟩
  refine W.new (N := N1) (vs := [.int .i64 e.lo, .int .i64 e.hi, .string e.tx]) (fr1 := ⟨[_, _, .pointer (some ⟨N1, 0, none⟩), _, _, _, _, _, _, _, _, _, _, _, _, _, _, _, _, _, _], []⟩) hO0 hN2 rfl (p_box rfl) rfl rfl ?_
  intro s3 hO4 hS5 r6 hB7
  refine W.op (v := .bool false) (fr1 := ⟨[_, _, _, _, .bool false, _, _, _, _, _, _, _, _, _, _, _, _, _, _, _, _], []⟩) rfl rfl rfl rfl ?_
  refine EndsOps.nil ?_
  refine Ends.seq ?_
  refine Ends.region ?_
  refine W.op (v := .pointer (some ⟨N1, 0, none⟩)) (fr1 := ⟨[_, _, _, _, _, .pointer (some ⟨N1, 0, none⟩), _, _, _, _, _, _, _, _, _, _, _, _, _, _, _], []⟩) rfl rfl rfl rfl ?_
  refine W.op (v := .int .i64 e.lo) (fr1 := ⟨[_, _, _, _, _, _, .int .i64 e.lo, _, _, _, _, _, _, _, _, _, _, _, _, _, _], []⟩) rfl (p_load1 r6 rfl rfl rfl rfl) rfl rfl ?_
  by_cases h8 : (0 : Int) ≤ e.lo
  · skip
    refine W.op (v := .bool true) (fr1 := ⟨[_, _, _, _, _, _, _, .bool true, _, _, _, _, _, _, _, _, _, _, _, _, _], []⟩) rfl (p_bin (geT h8)) rfl rfl ?_
    refine W.op (v := .bool true) (fr1 := ⟨[_, _, _, _, _, _, _, _, .bool true, _, _, _, _, _, _, _, _, _, _, _, _], []⟩) rfl rfl rfl rfl ?_
    refine W.op (v := .pointer (some ⟨N1, 1, none⟩)) (fr1 := ⟨[_, _, _, _, _, _, _, _, _, .pointer (some ⟨N1, 1, none⟩), _, _, _, _, _, _, _, _, _, _, _], []⟩) rfl rfl rfl rfl ?_
    refine W.op (v := .int .i64 e.hi) (fr1 := ⟨[_, _, _, _, _, _, _, _, _, _, .int .i64 e.hi, _, _, _, _, _, _, _, _, _, _], []⟩) rfl (p_load1 r6 rfl rfl rfl rfl) rfl rfl ?_
    refine W.op (v := .int .i64 n) (fr1 := ⟨[_, _, _, _, _, _, _, _, _, _, _, .int .i64 n, _, _, _, _, _, _, _, _, _], []⟩) rfl rfl rfl rfl ?_
    by_cases h9 : e.hi ≤ n
    · skip
      refine W.op (v := .bool true) (fr1 := ⟨[_, _, _, _, _, _, _, _, _, _, _, _, .bool true, _, _, _, _, _, _, _, _], []⟩) rfl (p_bin (leT h9)) rfl rfl ?_
      refine W.op (v := .bool true) (fr1 := ⟨[_, _, _, _, _, _, _, _, _, _, _, _, _, .bool true, _, _, _, _, _, _, _], []⟩) rfl rfl rfl rfl ?_
      refine W.op (v := .bool true) (fr1 := ⟨[_, _, _, _, _, _, _, _, _, _, _, _, _, _, .bool true, _, _, _, _, _, _], []⟩) rfl rfl rfl rfl ?_
      refine W.op (v := .pointer (some ⟨N1, 0, none⟩)) (fr1 := ⟨[_, _, _, _, _, _, _, _, _, _, _, _, _, _, _, .pointer (some ⟨N1, 0, none⟩), _, _, _, _, _], []⟩) rfl rfl rfl rfl ?_
      refine W.op (v := .int .i64 e.lo) (fr1 := ⟨[_, _, _, _, _, _, _, _, _, _, _, _, _, _, _, _, .int .i64 e.lo, _, _, _, _], []⟩) rfl (p_load1 r6 rfl rfl rfl rfl) rfl rfl ?_
      refine W.op (v := .pointer (some ⟨N1, 1, none⟩)) (fr1 := ⟨[_, _, _, _, _, _, _, _, _, _, _, _, _, _, _, _, _, .pointer (some ⟨N1, 1, none⟩), _, _, _], []⟩) rfl rfl rfl rfl ?_
      refine W.op (v := .int .i64 e.hi) (fr1 := ⟨[_, _, _, _, _, _, _, _, _, _, _, _, _, _, _, _, _, _, .int .i64 e.hi, _, _], []⟩) rfl (p_load1 r6 rfl rfl rfl rfl) rfl rfl ?_
      by_cases h10 : e.lo ≤ e.hi
      · skip
        refine W.op (v := .bool true) (fr1 := ⟨[_, _, _, _, _, _, _, _, _, _, _, _, _, _, _, _, _, _, _, .bool true, _], []⟩) rfl (p_bin (leT h10)) rfl rfl ?_
        refine W.op (v := .bool true) (fr1 := ⟨[_, _, _, _, _, _, _, _, _, _, _, _, _, _, _, _, _, _, _, _, .bool true], []⟩) rfl rfl rfl rfl ?_
        refine W.op (v := .bool true) (fr1 := ⟨[_, _, _, _, .bool true, _, _, _, _, _, _, _, _, _, _, _, _, _, _, _, _], []⟩) rfl rfl rfl rfl ?_
        refine EndsOps.nil ?_
        refine Ends.ret ?_
        exact ⟨rfl, rfl, hO4, by
          show Value.bool true = .bool (decide (Within e n))
          simp [Within, *]⟩
      · skip
        refine W.op (v := .bool false) (fr1 := ⟨[_, _, _, _, _, _, _, _, _, _, _, _, _, _, _, _, _, _, _, .bool false, _], []⟩) rfl (p_bin (leF h10)) rfl rfl ?_
        refine W.op (v := .bool false) (fr1 := ⟨[_, _, _, _, _, _, _, _, _, _, _, _, _, _, _, _, _, _, _, _, .bool false], []⟩) rfl rfl rfl rfl ?_
        refine W.op (v := .bool false) (fr1 := ⟨[_, _, _, _, .bool false, _, _, _, _, _, _, _, _, _, _, _, _, _, _, _, _], []⟩) rfl rfl rfl rfl ?_
        refine EndsOps.nil ?_
        refine Ends.ret ?_
        exact ⟨rfl, rfl, hO4, by
          show Value.bool false = .bool (decide (Within e n))
          simp [Within, *]⟩
    · skip
      refine W.op (v := .bool false) (fr1 := ⟨[_, _, _, _, _, _, _, _, _, _, _, _, .bool false, _, _, _, _, _, _, _, _], []⟩) rfl (p_bin (leF h9)) rfl rfl ?_
      refine W.op (v := .bool false) (fr1 := ⟨[_, _, _, _, _, _, _, _, _, _, _, _, _, .bool false, _, _, _, _, _, _, _], []⟩) rfl rfl rfl rfl ?_
      refine W.op (v := .bool false) (fr1 := ⟨[_, _, _, _, _, _, _, _, _, _, _, _, _, _, .bool false, _, _, _, _, _, _], []⟩) rfl rfl rfl rfl ?_
      refine W.skip (fr1 := ⟨[_, _, _, _, _, _, _, _, _, _, _, _, _, _, _, undef, _, _, _, _, _], []⟩) rfl rfl ?_
      refine W.skip (fr1 := ⟨[_, _, _, _, _, _, _, _, _, _, _, _, _, _, _, _, undef, _, _, _, _], []⟩) rfl rfl ?_
      refine W.skip (fr1 := ⟨[_, _, _, _, _, _, _, _, _, _, _, _, _, _, _, _, _, undef, _, _, _], []⟩) rfl rfl ?_
      refine W.skip (fr1 := ⟨[_, _, _, _, _, _, _, _, _, _, _, _, _, _, _, _, _, _, undef, _, _], []⟩) rfl rfl ?_
      refine W.skip (fr1 := ⟨[_, _, _, _, _, _, _, _, _, _, _, _, _, _, _, _, _, _, _, undef, _], []⟩) rfl rfl ?_
      refine W.op (v := .bool false) (fr1 := ⟨[_, _, _, _, _, _, _, _, _, _, _, _, _, _, _, _, _, _, _, _, .bool false], []⟩) rfl rfl rfl rfl ?_
      refine W.op (v := .bool false) (fr1 := ⟨[_, _, _, _, .bool false, _, _, _, _, _, _, _, _, _, _, _, _, _, _, _, _], []⟩) rfl rfl rfl rfl ?_
      refine EndsOps.nil ?_
      refine Ends.ret ?_
      exact ⟨rfl, rfl, hO4, by
        show Value.bool false = .bool (decide (Within e n))
        simp [Within, *]⟩
  · skip
    refine W.op (v := .bool false) (fr1 := ⟨[_, _, _, _, _, _, _, .bool false, _, _, _, _, _, _, _, _, _, _, _, _, _], []⟩) rfl (p_bin (geF h8)) rfl rfl ?_
    refine W.op (v := .bool false) (fr1 := ⟨[_, _, _, _, _, _, _, _, .bool false, _, _, _, _, _, _, _, _, _, _, _, _], []⟩) rfl rfl rfl rfl ?_
    refine W.skip (fr1 := ⟨[_, _, _, _, _, _, _, _, _, undef, _, _, _, _, _, _, _, _, _, _, _], []⟩) rfl rfl ?_
    refine W.skip (fr1 := ⟨[_, _, _, _, _, _, _, _, _, _, undef, _, _, _, _, _, _, _, _, _, _], []⟩) rfl rfl ?_
    refine W.skip (fr1 := ⟨[_, _, _, _, _, _, _, _, _, _, _, undef, _, _, _, _, _, _, _, _, _], []⟩) rfl rfl ?_
    refine W.skip (fr1 := ⟨[_, _, _, _, _, _, _, _, _, _, _, _, undef, _, _, _, _, _, _, _, _], []⟩) rfl rfl ?_
    refine W.op (v := .bool false) (fr1 := ⟨[_, _, _, _, _, _, _, _, _, _, _, _, _, .bool false, _, _, _, _, _, _, _], []⟩) rfl rfl rfl rfl ?_
    refine W.op (v := .bool false) (fr1 := ⟨[_, _, _, _, _, _, _, _, _, _, _, _, _, _, .bool false, _, _, _, _, _, _], []⟩) rfl rfl rfl rfl ?_
    refine W.skip (fr1 := ⟨[_, _, _, _, _, _, _, _, _, _, _, _, _, _, _, undef, _, _, _, _, _], []⟩) rfl rfl ?_
    refine W.skip (fr1 := ⟨[_, _, _, _, _, _, _, _, _, _, _, _, _, _, _, _, undef, _, _, _, _], []⟩) rfl rfl ?_
    refine W.skip (fr1 := ⟨[_, _, _, _, _, _, _, _, _, _, _, _, _, _, _, _, _, undef, _, _, _], []⟩) rfl rfl ?_
    refine W.skip (fr1 := ⟨[_, _, _, _, _, _, _, _, _, _, _, _, _, _, _, _, _, _, undef, _, _], []⟩) rfl rfl ?_
    refine W.skip (fr1 := ⟨[_, _, _, _, _, _, _, _, _, _, _, _, _, _, _, _, _, _, _, undef, _], []⟩) rfl rfl ?_
    refine W.op (v := .bool false) (fr1 := ⟨[_, _, _, _, _, _, _, _, _, _, _, _, _, _, _, _, _, _, _, _, .bool false], []⟩) rfl rfl rfl rfl ?_
    refine W.op (v := .bool false) (fr1 := ⟨[_, _, _, _, .bool false, _, _, _, _, _, _, _, _, _, _, _, _, _, _, _, _], []⟩) rfl rfl rfl rfl ?_
    refine EndsOps.nil ?_
    refine Ends.ret ?_
    exact ⟨rfl, rfl, hO4, by
      show Value.bool false = .bool (decide (Within e n))
      simp [Within, *]⟩

theorem c74 (a e : Ed) (s : St) : EndsPure R1.T 74 [.agg ⟨[.int .i64 a.lo, .int .i64 a.hi, .string a.tx]⟩, .agg ⟨[.int .i64 e.lo, .int .i64 e.hi, .string e.tx]⟩] s (fun v _ _ => v = .bool (decide (Behind a e))) := by
  refine EndsPure.of (rs := [4]) (fr0 := ⟨[.agg ⟨[.int .i64 a.lo, .int .i64 a.hi, .string a.tx]⟩, .agg ⟨[.int .i64 e.lo, .int .i64 e.hi, .string e.tx]⟩, undef, undef, undef, undef, undef, undef, undef, undef, undef, undef, undef, undef, undef, undef, undef], []⟩) (by kernel_rfl : R1.T.fn 74 = some ⟨17, (Try.f74.body).getD .skip, [.tmp 4]⟩) rfl ?_
  have hO0 := Own.refl s
  simp only [Try.f74, Option.getD]
  refine Ends.seq ?_
  refine Ends.region ?_
  obtain ⟨N1, hN2⟩ : ∃ N, N = s.next := ⟨_, rfl⟩
  refine W.new (N := N1) (vs := [.int .i64 a.lo, .int .i64 a.hi, .string a.tx]) (fr1 := ⟨[_, _, .pointer (some ⟨N1, 0, none⟩), _, _, _, _, _, _, _, _, _, _, _, _, _, _], []⟩) hO0 hN2 rfl (p_box rfl) rfl rfl ?_
  intro s3 hO4 hS5 r6 hB7
  obtain ⟨N8, hN9⟩ : ∃ N, N = s3.next := ⟨_, rfl⟩
  refine W.new (N := N8) (vs := [.int .i64 e.lo, .int .i64 e.hi, .string e.tx]) (fr1 := ⟨[_, _, _, .pointer (some ⟨N8, 0, none⟩), _, _, _, _, _, _, _, _, _, _, _, _, _], []⟩) hO4 hN9 rfl (p_box rfl) rfl rfl ?_
  intro s10 hO11 hS12 r13 hB14
  have r15 := r6.own hS12
  refine W.op (v := .bool false) (fr1 := ⟨[_, _, _, _, .bool false, _, _, _, _, _, _, _, _, _, _, _, _], []⟩) rfl rfl rfl rfl ?_
  refine EndsOps.nil ?_
  refine Ends.seq ?_
  refine Ends.region ?_
  refine W.op (v := .pointer (some ⟨N8, 0, none⟩)) (fr1 := ⟨[_, _, _, _, _, .pointer (some ⟨N8, 0, none⟩), _, _, _, _, _, _, _, _, _, _, _], []⟩) rfl rfl rfl rfl ?_
  refine W.op (v := .int .i64 e.lo) (fr1 := ⟨[_, _, _, _, _, _, .int .i64 e.lo, _, _, _, _, _, _, _, _, _, _], []⟩) rfl (p_load1 r13 rfl rfl rfl rfl) rfl rfl ?_
  refine W.op (v := .pointer (some ⟨N1, 1, none⟩)) (fr1 := ⟨[_, _, _, _, _, _, _, .pointer (some ⟨N1, 1, none⟩), _, _, _, _, _, _, _, _, _], []⟩) rfl rfl rfl rfl ?_
  refine W.op (v := .int .i64 a.hi) (fr1 := ⟨[_, _, _, _, _, _, _, _, .int .i64 a.hi, _, _, _, _, _, _, _, _], []⟩) rfl (p_load1 r15 rfl rfl rfl rfl) rfl rfl ?_
  by_cases h16 : a.hi ≤ e.lo
  · skip
    refine W.op (v := .bool true) (fr1 := ⟨[_, _, _, _, _, _, _, _, _, .bool true, _, _, _, _, _, _, _], []⟩) rfl (p_bin (geT h16)) rfl rfl ?_
    refine W.op (v := .bool true) (fr1 := ⟨[_, _, _, _, _, _, _, _, _, _, .bool true, _, _, _, _, _, _], []⟩) rfl rfl rfl rfl ?_
    refine W.op (v := .pointer (some ⟨N8, 0, none⟩)) (fr1 := ⟨[_, _, _, _, _, _, _, _, _, _, _, .pointer (some ⟨N8, 0, none⟩), _, _, _, _, _], []⟩) rfl rfl rfl rfl ?_
    refine W.op (v := .int .i64 e.lo) (fr1 := ⟨[_, _, _, _, _, _, _, _, _, _, _, _, .int .i64 e.lo, _, _, _, _], []⟩) rfl (p_load1 r13 rfl rfl rfl rfl) rfl rfl ?_
    refine W.op (v := .pointer (some ⟨N1, 0, none⟩)) (fr1 := ⟨[_, _, _, _, _, _, _, _, _, _, _, _, _, .pointer (some ⟨N1, 0, none⟩), _, _, _], []⟩) rfl rfl rfl rfl ?_
    refine W.op (v := .int .i64 a.lo) (fr1 := ⟨[_, _, _, _, _, _, _, _, _, _, _, _, _, _, .int .i64 a.lo, _, _], []⟩) rfl (p_load1 r15 rfl rfl rfl rfl) rfl rfl ?_
    by_cases h17 : a.lo < e.lo
    · skip
      refine W.op (v := .bool true) (fr1 := ⟨[_, _, _, _, _, _, _, _, _, _, _, _, _, _, _, .bool true, _], []⟩) rfl (p_bin (gtT h17)) rfl rfl ?_
      refine W.op (v := .bool true) (fr1 := ⟨[_, _, _, _, _, _, _, _, _, _, _, _, _, _, _, _, .bool true], []⟩) rfl rfl rfl rfl ?_
      refine W.op (v := .bool true) (fr1 := ⟨[_, _, _, _, .bool true, _, _, _, _, _, _, _, _, _, _, _, _], []⟩) rfl rfl rfl rfl ?_
      refine EndsOps.nil ?_
      refine Ends.ret ?_
      exact ⟨rfl, rfl, hO11, by
        show Value.bool true = .bool (decide (Behind a e))
        simp [Behind, *]⟩
    · skip
      refine W.op (v := .bool false) (fr1 := ⟨[_, _, _, _, _, _, _, _, _, _, _, _, _, _, _, .bool false, _], []⟩) rfl (p_bin (gtF h17)) rfl rfl ?_
      refine W.op (v := .bool false) (fr1 := ⟨[_, _, _, _, _, _, _, _, _, _, _, _, _, _, _, _, .bool false], []⟩) rfl rfl rfl rfl ?_
      refine W.op (v := .bool false) (fr1 := ⟨[_, _, _, _, .bool false, _, _, _, _, _, _, _, _, _, _, _, _], []⟩) rfl rfl rfl rfl ?_
      refine EndsOps.nil ?_
      refine Ends.ret ?_
      exact ⟨rfl, rfl, hO11, by
        show Value.bool false = .bool (decide (Behind a e))
        simp [Behind, *]⟩
  · skip
    refine W.op (v := .bool false) (fr1 := ⟨[_, _, _, _, _, _, _, _, _, .bool false, _, _, _, _, _, _, _], []⟩) rfl (p_bin (geF h16)) rfl rfl ?_
    refine W.op (v := .bool false) (fr1 := ⟨[_, _, _, _, _, _, _, _, _, _, .bool false, _, _, _, _, _, _], []⟩) rfl rfl rfl rfl ?_
    refine W.skip (fr1 := ⟨[_, _, _, _, _, _, _, _, _, _, _, undef, _, _, _, _, _], []⟩) rfl rfl ?_
    refine W.skip (fr1 := ⟨[_, _, _, _, _, _, _, _, _, _, _, _, undef, _, _, _, _], []⟩) rfl rfl ?_
    refine W.skip (fr1 := ⟨[_, _, _, _, _, _, _, _, _, _, _, _, _, undef, _, _, _], []⟩) rfl rfl ?_
    refine W.skip (fr1 := ⟨[_, _, _, _, _, _, _, _, _, _, _, _, _, _, undef, _, _], []⟩) rfl rfl ?_
    refine W.skip (fr1 := ⟨[_, _, _, _, _, _, _, _, _, _, _, _, _, _, _, undef, _], []⟩) rfl rfl ?_
    refine W.op (v := .bool false) (fr1 := ⟨[_, _, _, _, _, _, _, _, _, _, _, _, _, _, _, _, .bool false], []⟩) rfl rfl rfl rfl ?_
    refine W.op (v := .bool false) (fr1 := ⟨[_, _, _, _, .bool false, _, _, _, _, _, _, _, _, _, _, _, _], []⟩) rfl rfl rfl rfl ?_
    refine EndsOps.nil ?_
    refine Ends.ret ?_
    exact ⟨rfl, rfl, hO11, by
      show Value.bool false = .bool (decide (Behind a e))
      simp [Behind, *]⟩

theorem c76 (e : Ed) (s : St) : EndsPure R1.T 76 [.agg ⟨[.int .i64 e.lo, .int .i64 e.hi, .string e.tx]⟩] s (fun v _ _ => v = .bool (decide (Nothing e))) := by
  refine EndsPure.of (rs := [2]) (fr0 := ⟨[.agg ⟨[.int .i64 e.lo, .int .i64 e.hi, .string e.tx]⟩, undef, undef, undef, undef, undef, undef, undef, undef, undef, undef, undef, undef], []⟩) (by kernel_rfl : R1.T.fn 76 = some ⟨13, (Try.f76.body).getD .skip, [.tmp 2]⟩) rfl ?_
  have hO0 := Own.refl s
  simp only [Try.f76, Option.getD]
  refine Ends.seq ?_
  refine Ends.region ?_
  obtain ⟨N1, hN2⟩ : ∃ N, N = s.next := ⟨_, rfl⟩
  refine W.new (N := N1) (vs := [.int .i64 e.lo, .int .i64 e.hi, .string e.tx]) (fr1 := ⟨[_, .pointer (some ⟨N1, 0, none⟩), _, _, _, _, _, _, _, _, _, _, _], []⟩) hO0 hN2 rfl (p_box rfl) rfl rfl ?_
  intro s3 hO4 hS5 r6 hB7
  refine W.op (v := .bool false) (fr1 := ⟨[_, _, .bool false, _, _, _, _, _, _, _, _, _, _], []⟩) rfl rfl rfl rfl ?_
  refine EndsOps.nil ?_
  refine Ends.seq ?_
  refine Ends.region ?_
  refine W.op (v := .pointer (some ⟨N1, 0, none⟩)) (fr1 := ⟨[_, _, _, .pointer (some ⟨N1, 0, none⟩), _, _, _, _, _, _, _, _, _], []⟩) rfl rfl rfl rfl ?_
  refine W.op (v := .int .i64 e.lo) (fr1 := ⟨[_, _, _, _, .int .i64 e.lo, _, _, _, _, _, _, _, _], []⟩) rfl (p_load1 r6 rfl rfl rfl rfl) rfl rfl ?_
  refine W.op (v := .pointer (some ⟨N1, 1, none⟩)) (fr1 := ⟨[_, _, _, _, _, .pointer (some ⟨N1, 1, none⟩), _, _, _, _, _, _, _], []⟩) rfl rfl rfl rfl ?_
  refine W.op (v := .int .i64 e.hi) (fr1 := ⟨[_, _, _, _, _, _, .int .i64 e.hi, _, _, _, _, _, _], []⟩) rfl (p_load1 r6 rfl rfl rfl rfl) rfl rfl ?_
  by_cases h8 : e.lo = e.hi
  · skip
    refine W.op (v := .bool true) (fr1 := ⟨[_, _, _, _, _, _, _, .bool true, _, _, _, _, _], []⟩) rfl (p_bin (eqT h8)) rfl rfl ?_
    refine W.op (v := .bool true) (fr1 := ⟨[_, _, _, _, _, _, _, _, .bool true, _, _, _, _], []⟩) rfl rfl rfl rfl ?_
    refine W.op (v := .pointer (some ⟨N1, 2, none⟩)) (fr1 := ⟨[_, _, _, _, _, _, _, _, _, .pointer (some ⟨N1, 2, none⟩), _, _, _], []⟩) rfl rfl rfl rfl ?_
    refine W.op (v := .string e.tx) (fr1 := ⟨[_, _, _, _, _, _, _, _, _, _, .string e.tx, _, _], []⟩) rfl (p_load1 r6 rfl rfl rfl rfl) rfl rfl ?_
    by_cases h9 : B e.tx = B ByteArray.empty
    · skip
      refine W.op (v := .bool true) (fr1 := ⟨[_, _, _, _, _, _, _, _, _, _, _, .bool true, _], []⟩) rfl (p_bin (seqT h9)) rfl rfl ?_
      refine W.op (v := .bool true) (fr1 := ⟨[_, _, _, _, _, _, _, _, _, _, _, _, .bool true], []⟩) rfl rfl rfl rfl ?_
      refine W.op (v := .bool true) (fr1 := ⟨[_, _, .bool true, _, _, _, _, _, _, _, _, _, _], []⟩) rfl rfl rfl rfl ?_
      refine EndsOps.nil ?_
      refine Ends.ret ?_
      exact ⟨rfl, rfl, hO4, by
        show Value.bool true = .bool (decide (Nothing e))
        simp only [Nothing, and_true, and_false, true_and, false_and, decide_true, decide_false, *]⟩
    · skip
      refine W.op (v := .bool false) (fr1 := ⟨[_, _, _, _, _, _, _, _, _, _, _, .bool false, _], []⟩) rfl (p_bin (seqF h9)) rfl rfl ?_
      refine W.op (v := .bool false) (fr1 := ⟨[_, _, _, _, _, _, _, _, _, _, _, _, .bool false], []⟩) rfl rfl rfl rfl ?_
      refine W.op (v := .bool false) (fr1 := ⟨[_, _, .bool false, _, _, _, _, _, _, _, _, _, _], []⟩) rfl rfl rfl rfl ?_
      refine EndsOps.nil ?_
      refine Ends.ret ?_
      exact ⟨rfl, rfl, hO4, by
        show Value.bool false = .bool (decide (Nothing e))
        simp only [Nothing, and_true, and_false, true_and, false_and, decide_true, decide_false, *]⟩
  · skip
    refine W.op (v := .bool false) (fr1 := ⟨[_, _, _, _, _, _, _, .bool false, _, _, _, _, _], []⟩) rfl (p_bin (eqF h8)) rfl rfl ?_
    refine W.op (v := .bool false) (fr1 := ⟨[_, _, _, _, _, _, _, _, .bool false, _, _, _, _], []⟩) rfl rfl rfl rfl ?_
    refine W.skip (fr1 := ⟨[_, _, _, _, _, _, _, _, _, undef, _, _, _], []⟩) rfl rfl ?_
    refine W.skip (fr1 := ⟨[_, _, _, _, _, _, _, _, _, _, undef, _, _], []⟩) rfl rfl ?_
    refine W.skip (fr1 := ⟨[_, _, _, _, _, _, _, _, _, _, _, undef, _], []⟩) rfl rfl ?_
    refine W.op (v := .bool false) (fr1 := ⟨[_, _, _, _, _, _, _, _, _, _, _, _, .bool false], []⟩) rfl rfl rfl rfl ?_
    refine W.op (v := .bool false) (fr1 := ⟨[_, _, .bool false, _, _, _, _, _, _, _, _, _, _], []⟩) rfl rfl rfl rfl ?_
    refine EndsOps.nil ?_
    refine Ends.ret ?_
    exact ⟨rfl, rfl, hO4, by
      show Value.bool false = .bool (decide (Nothing e))
      simp only [Nothing, and_true, and_false, true_and, false_and, decide_true, decide_false, *]⟩

theorem c35 (al : Option Addr) (l : List Ed) (cl Nl ol : Nat) (vl : List Value) (yl zl : Nat) (n : Int) (s : St) (Hl : Sl Ed.cells 3 s.t s.next al l Nl ol vl yl zl)  : EndsPure R1.T 35 [.slice al l.length cl, .int .i64 n] s (fun v _ _ => v = .bool (decide (Right l n))) := by
  refine EndsPure.of (rs := [4]) (fr0 := ⟨[.slice al l.length cl, .int .i64 n, undef, undef, undef, undef, undef, undef, undef, undef, undef, undef, undef, undef, undef, undef, undef, undef, undef, undef, undef, undef, undef, undef, undef, undef, undef, undef, undef, undef, undef, undef, undef, undef, undef], []⟩) (by kernel_rfl : R1.T.fn 35 = some ⟨35, (Try.f35.body).getD .skip, [.tmp 4]⟩) rfl ?_
  have hO0 := Own.refl s
  have Ml := Hl.small
  simp only [Try.f35, Option.getD]
  refine Ends.seq ?_
  refine Ends.region ?_
  refine W.op (v := .bool false) (fr1 := ⟨[_, _, _, _, .bool false, _, _, _, _, _, _, _, _, _, _, _, _, _, _, _, _, _, _, _, _, _, _, _, _, _, _, _, _, _, _], []⟩) rfl rfl rfl rfl ?_
  refine EndsOps.nil ?_
  refine Ends.seq ?_
  refine Ends.seq ?_
  refine Ends.region ?_
  refine W.op (v := .slice al l.length cl) (fr1 := ⟨[_, _, _, _, _, _, _, .slice al l.length cl, _, _, _, _, _, _, _, _, _, _, _, _, _, _, _, _, _, _, _, _, _, _, _, _, _, _, _], []⟩) rfl rfl rfl rfl ?_
  refine W.op (v := .int .i64 ((l.length : Nat) : Int)) (fr1 := ⟨[_, _, _, _, _, _, _, _, .int .i64 ((l.length : Nat) : Int), _, _, _, _, _, _, _, _, _, _, _, _, _, _, _, _, _, _, _, _, _, _, _, _, _, _], []⟩) rfl rfl rfl rfl ?_
  refine W.op (v := .int .i64 0) (fr1 := ⟨[_, _, _, _, _, _, _, _, _, .int .i64 0, _, _, _, _, _, _, _, _, _, _, _, _, _, _, _, _, _, _, _, _, _, _, _, _, _], []⟩) rfl rfl rfl rfl ?_
  refine EndsOps.nil ?_
  refine W.block ?_
  refine Ends.loopInv (fun d fr s1 => ∃ (i : Nat) (j4 j5 j6 j10 j11 j12 j13 j14 j15 j16 j17 j18 j19 j20 j21 j22 j23 j24 j25 j26 j27 j28 j29 j30 j31 j32 : Value), fr = ⟨[.slice al l.length cl, .int .i64 n, undef, undef, j4, j5, j6, .slice al l.length cl, .int .i64 ((l.length : Nat) : Int), .int .i64 ((i : Nat) : Int), j10, j11, j12, j13, j14, j15, j16, j17, j18, j19, j20, j21, j22, j23, j24, j25, j26, j27, j28, j29, j30, j31, j32, undef, undef], []⟩ ∧ Own s s1 ∧ d = l.length - i ∧ (i ≤ l.length) ∧ (Ok l n i)) ?_ _ _ _ ⟨0, _, _, _, _, _, _, _, _, _, _, _, _, _, _, _, _, _, _, _, _, _, _, _, _, _, _, rfl, hO0, rfl, Nat.zero_le _, (fun k hk => absurd hk (Nat.not_lt_zero k))⟩
  rintro d _ s1 ⟨i, j4, j5, j6, j10, j11, j12, j13, j14, j15, j16, j17, j18, j19, j20, j21, j22, j23, j24, j25, j26, j27, j28, j29, j30, j31, j32, rfl, hO2, hd3, hi, hok⟩
  refine Ends.seq ?_
  refine Ends.region ?_
  by_cases h4 : ((i : Nat) : Int) < ((l.length : Nat) : Int)
  · skip
    refine W.op (v := .bool true) (fr1 := ⟨[_, _, _, _, _, _, _, _, _, _, .bool true, _, _, _, _, _, _, _, _, _, _, _, _, _, _, _, _, _, _, _, _, _, _, _, _], []⟩) rfl (p_bin (ltT h4)) rfl rfl ?_
    refine EndsOps.nil ?_
    refine Ends.seq ?_
    refine Ends.condT rfl ?_
    refine Ends.skip ?_
    refine Ends.seq ?_
    refine W.block ?_
    refine Ends.seq ?_
    refine Ends.region ?_
    refine W.op (v := .int .i64 ((i : Nat) : Int)) (fr1 := ⟨[_, _, _, _, _, _, _, _, _, _, _, .int .i64 ((i : Nat) : Int), _, _, _, _, _, _, _, _, _, _, _, _, _, _, _, _, _, _, _, _, _, _, _], []⟩) rfl rfl rfl rfl ?_
    obtain ⟨e5, he6⟩ := ex_at (l := l) (i := i) (by omega)
    refine W.op (v := .pointer (some ⟨Nl, ol + i * 3, none⟩)) (fr1 := ⟨[_, _, _, _, _, _, _, _, _, _, _, _, .pointer (some ⟨Nl, ol + i * 3, none⟩), _, _, _, _, _, _, _, _, _, _, _, _, _, _, _, _, _, _, _, _, _, _], []⟩) rfl (p_ix (Sl.ix Hl rfl rfl he6 _)) rfl rfl ?_
    refine W.op (v := .agg ⟨[.int .i64 e5.lo, .int .i64 e5.hi, .string e5.tx]⟩) (fr1 := ⟨[_, _, _, _, _, _, _, _, _, _, _, _, _, .agg ⟨[.int .i64 e5.lo, .int .i64 e5.hi, .string e5.tx]⟩, _, _, _, _, _, _, _, _, _, _, _, _, _, _, _, _, _, _, _, _, _], []⟩) rfl (p_loadA (Sl.row' (Hl.own hO2) he6) rfl rfl rfl rfl ((Hl.own hO2).get _ _ he6)) rfl rfl ?_
    obtain ⟨N7, hN8⟩ : ∃ N, N = s1.next := ⟨_, rfl⟩
    refine W.new (N := N7) (vs := [.int .i64 0, .int .i64 0, .string ByteArray.empty]) (fr1 := ⟨[_, _, _, _, _, _, .pointer (some ⟨N7, 0, none⟩), _, _, _, _, _, _, _, _, _, _, _, _, _, _, _, _, _, _, _, _, _, _, _, _, _, _, _, _], []⟩) hO2 hN8 rfl (p_alloc zero97 rfl) rfl rfl ?_
    intro s9 hO10 hS11 r12 hB13
    refine W.op (v := .int .i64 ((i : Nat) : Int)) (fr1 := ⟨[_, _, _, _, _, .int .i64 ((i : Nat) : Int), _, _, _, _, _, _, _, _, _, _, _, _, _, _, _, _, _, _, _, _, _, _, _, _, _, _, _, _, _], []⟩) rfl rfl rfl rfl ?_
    refine W.store2 (cs := [.int .i64 e5.lo, .int .i64 e5.hi, .string e5.tx]) (vs' := [.int .i64 e5.lo, .int .i64 e5.hi, .string e5.tx]) (fr1 := ⟨[_, _, _, _, _, _, _, _, _, _, _, _, _, _, _, _, _, _, _, _, _, _, _, _, _, _, _, _, _, _, _, _, _, _, _], []⟩) hO10 r12 hB13 rfl rfl rfl rfl (by kernel_rfl) (by simp) (by simp [END, oneCell]) rfl rfl ?_
    intro s14 hO15 hn16 hu17 r18 hX19
    refine EndsOps.nil ?_
    refine Ends.seq ?_
    refine Ends.drawW (bef := [0, 0, 3, 7, 15, 31, 63, 127, 255, 255, 767, 2047, 4095, 255, 16383, 32767, 65535, 131071]) (by kernel_rfl) ?_
    refine D.load (v := .agg ⟨[.int .i64 e5.lo, .int .i64 e5.hi, .string e5.tx]⟩) (fr1 := ⟨[_, _, _, _, _, _, _, _, _, _, _, _, _, _, .agg ⟨[.int .i64 e5.lo, .int .i64 e5.hi, .string e5.tx]⟩, _, _, _, _, _, _, _, _, _, _, _, _, _, _, _, _, _, _, _, _], []⟩) rfl rfl rfl (fun _ h => by cases h) (fun s1 hg => (p_loadA ⟨hg.trans (r18).get, (r18).lt⟩ rfl rfl rfl rfl rfl)) rfl ?_
    refine D.op (v := .int .i64 n) (fr1 := ⟨[_, _, _, _, _, _, _, _, _, _, _, _, _, _, _, .int .i64 n, _, _, _, _, _, _, _, _, _, _, _, _, _, _, _, _, _, _, _], []⟩) rfl rfl rfl rfl rfl ?_
    by_cases h20 : Within e5 n
    · skip
      refine D.call (ar := [.agg ⟨[.int .i64 e5.lo, .int .i64 e5.hi, .string e5.tx]⟩, .int .i64 n]) (X := .bool true) (fr1 := ⟨[_, _, _, _, _, _, _, _, _, _, _, _, _, _, _, _, .bool true, _, _, _, _, _, _, _, _, _, _, _, _, _, _, _, _, _, _], []⟩) hO15 rfl rfl rfl rfl rfl ((c73 e5 n _).mono fun v _ _ h => h.trans (congrArg Value.bool (decide_eq_true h20))) rfl ?_
      intro s21 hO22 hS23
      have r24 := r18.own hS23
      refine D.op (v := .bool false) (fr1 := ⟨[_, _, _, _, _, _, _, _, _, _, _, _, _, _, _, _, _, .bool false, _, _, _, _, _, _, _, _, _, _, _, _, _, _, _, _, _], []⟩) rfl rfl rfl rfl rfl ?_
      refine D.op (v := .bool false) (fr1 := ⟨[_, _, _, _, _, _, _, _, _, _, _, _, _, _, _, _, _, _, .bool false, _, _, _, _, _, _, _, _, _, _, _, _, _, _, _, _], []⟩) rfl rfl rfl rfl rfl ?_
      refine D.op (v := .int .i64 ((i : Nat) : Int)) (fr1 := ⟨[_, _, _, _, _, _, _, _, _, _, _, _, _, _, _, _, _, _, _, .int .i64 ((i : Nat) : Int), _, _, _, _, _, _, _, _, _, _, _, _, _, _, _], []⟩) rfl rfl rfl rfl rfl ?_
      by_cases h25 : (0 : Int) < ((i : Nat) : Int)
      · skip
        refine D.op (v := .bool true) (fr1 := ⟨[_, _, _, _, _, _, _, _, _, _, _, _, _, _, _, _, _, _, _, _, .bool true, _, _, _, _, _, _, _, _, _, _, _, _, _, _], []⟩) rfl (p_bin (gtT h25)) rfl rfl rfl ?_
        refine D.op (v := .bool true) (fr1 := ⟨[_, _, _, _, _, _, _, _, _, _, _, _, _, _, _, _, _, _, _, _, _, .bool true, _, _, _, _, _, _, _, _, _, _, _, _, _], []⟩) rfl rfl rfl rfl rfl ?_
        refine D.op (v := .slice al l.length cl) (fr1 := ⟨[_, _, _, _, _, _, _, _, _, _, _, _, _, _, _, _, _, _, _, _, _, _, .slice al l.length cl, _, _, _, _, _, _, _, _, _, _, _, _], []⟩) rfl rfl rfl rfl rfl ?_
        refine D.op (v := .int .i64 ((i : Nat) : Int)) (fr1 := ⟨[_, _, _, _, _, _, _, _, _, _, _, _, _, _, _, _, _, _, _, _, _, _, _, .int .i64 ((i : Nat) : Int), _, _, _, _, _, _, _, _, _, _, _], []⟩) rfl rfl rfl rfl rfl ?_
        obtain ⟨q26, hq27⟩ : ∃ q : Nat, (q : Int) = ((i : Nat) : Int) - 1 := ⟨(i - 1), by omega⟩
        refine D.op (v := .int .i64 ((q26 : Nat) : Int)) (fr1 := ⟨[_, _, _, _, _, _, _, _, _, _, _, _, _, _, _, _, _, _, _, _, _, _, _, _, .int .i64 ((q26 : Nat) : Int), _, _, _, _, _, _, _, _, _, _], []⟩) rfl (p_bin (subI (by omega) (by omega) (by omega))) rfl rfl rfl ?_
        obtain ⟨e28, he29⟩ := ex_at (l := l) (i := q26) (by omega)
        refine D.op (v := .pointer (some ⟨Nl, ol + q26 * 3, none⟩)) (fr1 := ⟨[_, _, _, _, _, _, _, _, _, _, _, _, _, _, _, _, _, _, _, _, _, _, _, _, _, .pointer (some ⟨Nl, ol + q26 * 3, none⟩), _, _, _, _, _, _, _, _, _], []⟩) rfl (p_ix (Sl.ix Hl rfl rfl he29 _)) rfl rfl rfl ?_
        refine D.load (v := .agg ⟨[.int .i64 e28.lo, .int .i64 e28.hi, .string e28.tx]⟩) (fr1 := ⟨[_, _, _, _, _, _, _, _, _, _, _, _, _, _, _, _, _, _, _, _, _, _, _, _, _, _, .agg ⟨[.int .i64 e28.lo, .int .i64 e28.hi, .string e28.tx]⟩, _, _, _, _, _, _, _, _], []⟩) rfl rfl rfl (fun _ h => by cases h) (fun s1 hg => (p_loadA ⟨hg.trans ((Sl.row' (Hl.own hO22) he29)).get, ((Sl.row' (Hl.own hO22) he29)).lt⟩ rfl rfl rfl rfl ((Hl.own hO22).get _ _ he29))) rfl ?_
        refine D.load (v := .agg ⟨[.int .i64 e5.lo, .int .i64 e5.hi, .string e5.tx]⟩) (fr1 := ⟨[_, _, _, _, _, _, _, _, _, _, _, _, _, _, _, _, _, _, _, _, _, _, _, _, _, _, _, .agg ⟨[.int .i64 e5.lo, .int .i64 e5.hi, .string e5.tx]⟩, _, _, _, _, _, _, _], []⟩) rfl rfl rfl (fun _ h => by cases h) (fun s1 hg => (p_loadA ⟨hg.trans (r24).get, (r24).lt⟩ rfl rfl rfl rfl rfl)) rfl ?_
        by_cases h30 : Behind e28 e5
        · skip
          refine D.call (ar := [.agg ⟨[.int .i64 e28.lo, .int .i64 e28.hi, .string e28.tx]⟩, .agg ⟨[.int .i64 e5.lo, .int .i64 e5.hi, .string e5.tx]⟩]) (X := .bool true) (fr1 := ⟨[_, _, _, _, _, _, _, _, _, _, _, _, _, _, _, _, _, _, _, _, _, _, _, _, _, _, _, _, .bool true, _, _, _, _, _, _], []⟩) hO22 rfl rfl rfl rfl rfl ((c74 e28 e5 _).mono fun v _ _ h => h.trans (congrArg Value.bool (decide_eq_true h30))) rfl ?_
          intro s31 hO32 hS33
          have r34 := r24.own hS33
          refine D.op (v := .bool false) (fr1 := ⟨[_, _, _, _, _, _, _, _, _, _, _, _, _, _, _, _, _, _, _, _, _, _, _, _, _, _, _, _, _, .bool false, _, _, _, _, _], []⟩) rfl rfl rfl rfl rfl ?_
          refine D.op (v := .bool false) (fr1 := ⟨[_, _, _, _, _, _, _, _, _, _, _, _, _, _, _, _, _, _, _, _, _, _, _, _, _, _, _, _, _, _, .bool false, _, _, _, _], []⟩) rfl rfl rfl rfl rfl ?_
          refine D.op (v := .bool false) (fr1 := ⟨[_, _, _, _, _, _, _, _, _, _, _, _, _, _, _, _, _, _, _, _, _, _, _, _, _, _, _, _, _, _, _, .bool false, _, _, _], []⟩) rfl rfl rfl rfl rfl ?_
          refine D.nil ?_
          refine Ends.condF rfl ?_
          refine Ends.skip ?_
          refine Ends.region ?_
          refine W.op (v := .int .i64 ((i + 1 : Nat) : Int)) (fr1 := ⟨[_, _, _, _, _, _, _, _, _, _, _, _, _, _, _, _, _, _, _, _, _, _, _, _, _, _, _, _, _, _, _, _, .int .i64 ((i + 1 : Nat) : Int), _, _], []⟩) rfl (p_bin (addI (by omega) (by omega) (by omega))) rfl rfl ?_
          refine W.op (v := .int .i64 ((i + 1 : Nat) : Int)) (fr1 := ⟨[_, _, _, _, _, _, _, _, _, .int .i64 ((i + 1 : Nat) : Int), _, _, _, _, _, _, _, _, _, _, _, _, _, _, _, _, _, _, _, _, _, _, _, _, _], []⟩) rfl rfl rfl rfl ?_
          refine EndsOps.nil ?_
          exact ⟨_, (by omega), i + 1, _, _, _, _, _, _, _, _, _, _, _, _, _, _, _, _, _, _, _, _, _, _, _, _, _, _, rfl, hO32, rfl, by omega, Ok.step hok he6 h20 he29 (by omega) (by exact h30)⟩
        · skip
          refine D.call (ar := [.agg ⟨[.int .i64 e28.lo, .int .i64 e28.hi, .string e28.tx]⟩, .agg ⟨[.int .i64 e5.lo, .int .i64 e5.hi, .string e5.tx]⟩]) (X := .bool false) (fr1 := ⟨[_, _, _, _, _, _, _, _, _, _, _, _, _, _, _, _, _, _, _, _, _, _, _, _, _, _, _, _, .bool false, _, _, _, _, _, _], []⟩) hO22 rfl rfl rfl rfl rfl ((c74 e28 e5 _).mono fun v _ _ h => h.trans (congrArg Value.bool (decide_eq_false h30))) rfl ?_
          intro s35 hO36 hS37
          have r38 := r24.own hS37
          refine D.op (v := .bool true) (fr1 := ⟨[_, _, _, _, _, _, _, _, _, _, _, _, _, _, _, _, _, _, _, _, _, _, _, _, _, _, _, _, _, .bool true, _, _, _, _, _], []⟩) rfl rfl rfl rfl rfl ?_
          refine D.op (v := .bool true) (fr1 := ⟨[_, _, _, _, _, _, _, _, _, _, _, _, _, _, _, _, _, _, _, _, _, _, _, _, _, _, _, _, _, _, .bool true, _, _, _, _], []⟩) rfl rfl rfl rfl rfl ?_
          refine D.op (v := .bool true) (fr1 := ⟨[_, _, _, _, _, _, _, _, _, _, _, _, _, _, _, _, _, _, _, _, _, _, _, _, _, _, _, _, _, _, _, .bool true, _, _, _], []⟩) rfl rfl rfl rfl rfl ?_
          refine D.nil ?_
          refine Ends.condT rfl ?_
          refine Ends.seq ?_
          refine Ends.region ?_
          refine W.op (v := .bool false) (fr1 := ⟨[_, _, _, _, .bool false, _, _, _, _, _, _, _, _, _, _, _, _, _, _, _, _, _, _, _, _, _, _, _, _, _, _, _, _, _, _], []⟩) rfl rfl rfl rfl ?_
          refine EndsOps.nil ?_
          refine Ends.ret ?_
          exact ⟨rfl, rfl, hO36, by
            show Value.bool false = .bool (decide (Right l n))
            exact congrArg Value.bool (decide_eq_false fun hR => by have := hR.at he6 he29 (by omega); simp only [Behind] at *; omega).symm⟩
      · skip
        refine D.op (v := .bool false) (fr1 := ⟨[_, _, _, _, _, _, _, _, _, _, _, _, _, _, _, _, _, _, _, _, .bool false, _, _, _, _, _, _, _, _, _, _, _, _, _, _], []⟩) rfl (p_bin (gtF h25)) rfl rfl rfl ?_
        refine D.op (v := .bool false) (fr1 := ⟨[_, _, _, _, _, _, _, _, _, _, _, _, _, _, _, _, _, _, _, _, _, .bool false, _, _, _, _, _, _, _, _, _, _, _, _, _], []⟩) rfl rfl rfl rfl rfl ?_
        refine D.skip (fr1 := ⟨[_, _, _, _, _, _, _, _, _, _, _, _, _, _, _, _, _, _, _, _, _, _, undef, _, _, _, _, _, _, _, _, _, _, _, _], []⟩) rfl rfl ?_
        refine D.skip (fr1 := ⟨[_, _, _, _, _, _, _, _, _, _, _, _, _, _, _, _, _, _, _, _, _, _, _, undef, _, _, _, _, _, _, _, _, _, _, _], []⟩) rfl rfl ?_
        refine D.skip (fr1 := ⟨[_, _, _, _, _, _, _, _, _, _, _, _, _, _, _, _, _, _, _, _, _, _, _, _, undef, _, _, _, _, _, _, _, _, _, _], []⟩) rfl rfl ?_
        refine D.skip (fr1 := ⟨[_, _, _, _, _, _, _, _, _, _, _, _, _, _, _, _, _, _, _, _, _, _, _, _, _, undef, _, _, _, _, _, _, _, _, _], []⟩) rfl rfl ?_
        refine D.skip (fr1 := ⟨[_, _, _, _, _, _, _, _, _, _, _, _, _, _, _, _, _, _, _, _, _, _, _, _, _, _, undef, _, _, _, _, _, _, _, _], []⟩) rfl rfl ?_
        refine D.skip (fr1 := ⟨[_, _, _, _, _, _, _, _, _, _, _, _, _, _, _, _, _, _, _, _, _, _, _, _, _, _, _, undef, _, _, _, _, _, _, _], []⟩) rfl rfl ?_
        refine D.skip (fr1 := ⟨[_, _, _, _, _, _, _, _, _, _, _, _, _, _, _, _, _, _, _, _, _, _, _, _, _, _, _, _, undef, _, _, _, _, _, _], []⟩) rfl rfl ?_
        refine D.skip (fr1 := ⟨[_, _, _, _, _, _, _, _, _, _, _, _, _, _, _, _, _, _, _, _, _, _, _, _, _, _, _, _, _, undef, _, _, _, _, _], []⟩) rfl rfl ?_
        refine D.op (v := .bool false) (fr1 := ⟨[_, _, _, _, _, _, _, _, _, _, _, _, _, _, _, _, _, _, _, _, _, _, _, _, _, _, _, _, _, _, .bool false, _, _, _, _], []⟩) rfl rfl rfl rfl rfl ?_
        refine D.op (v := .bool false) (fr1 := ⟨[_, _, _, _, _, _, _, _, _, _, _, _, _, _, _, _, _, _, _, _, _, _, _, _, _, _, _, _, _, _, _, .bool false, _, _, _], []⟩) rfl rfl rfl rfl rfl ?_
        refine D.nil ?_
        refine Ends.condF rfl ?_
        refine Ends.skip ?_
        refine Ends.region ?_
        refine W.op (v := .int .i64 ((i + 1 : Nat) : Int)) (fr1 := ⟨[_, _, _, _, _, _, _, _, _, _, _, _, _, _, _, _, _, _, _, _, _, _, _, _, _, _, _, _, _, _, _, _, .int .i64 ((i + 1 : Nat) : Int), _, _], []⟩) rfl (p_bin (addI (by omega) (by omega) (by omega))) rfl rfl ?_
        refine W.op (v := .int .i64 ((i + 1 : Nat) : Int)) (fr1 := ⟨[_, _, _, _, _, _, _, _, _, .int .i64 ((i + 1 : Nat) : Int), _, _, _, _, _, _, _, _, _, _, _, _, _, _, _, _, _, _, _, _, _, _, _, _, _], []⟩) rfl rfl rfl rfl ?_
        refine EndsOps.nil ?_
        exact ⟨_, (by omega), i + 1, _, _, _, _, _, _, _, _, _, _, _, _, _, _, _, _, _, _, _, _, _, _, _, _, _, _, rfl, hO22, rfl, by omega, Ok.step0 hok he6 h20 (by omega)⟩
    · skip
      refine D.call (ar := [.agg ⟨[.int .i64 e5.lo, .int .i64 e5.hi, .string e5.tx]⟩, .int .i64 n]) (X := .bool false) (fr1 := ⟨[_, _, _, _, _, _, _, _, _, _, _, _, _, _, _, _, .bool false, _, _, _, _, _, _, _, _, _, _, _, _, _, _, _, _, _, _], []⟩) hO15 rfl rfl rfl rfl rfl ((c73 e5 n _).mono fun v _ _ h => h.trans (congrArg Value.bool (decide_eq_false h20))) rfl ?_
      intro s39 hO40 hS41
      have r42 := r18.own hS41
      refine D.op (v := .bool true) (fr1 := ⟨[_, _, _, _, _, _, _, _, _, _, _, _, _, _, _, _, _, .bool true, _, _, _, _, _, _, _, _, _, _, _, _, _, _, _, _, _], []⟩) rfl rfl rfl rfl rfl ?_
      refine D.op (v := .bool true) (fr1 := ⟨[_, _, _, _, _, _, _, _, _, _, _, _, _, _, _, _, _, _, .bool true, _, _, _, _, _, _, _, _, _, _, _, _, _, _, _, _], []⟩) rfl rfl rfl rfl rfl ?_
      refine D.skip (fr1 := ⟨[_, _, _, _, _, _, _, _, _, _, _, _, _, _, _, _, _, _, _, undef, _, _, _, _, _, _, _, _, _, _, _, _, _, _, _], []⟩) rfl rfl ?_
      refine D.skip (fr1 := ⟨[_, _, _, _, _, _, _, _, _, _, _, _, _, _, _, _, _, _, _, _, undef, _, _, _, _, _, _, _, _, _, _, _, _, _, _], []⟩) rfl rfl ?_
      refine D.skip (fr1 := ⟨[_, _, _, _, _, _, _, _, _, _, _, _, _, _, _, _, _, _, _, _, _, undef, _, _, _, _, _, _, _, _, _, _, _, _, _], []⟩) rfl rfl ?_
      refine D.skip (fr1 := ⟨[_, _, _, _, _, _, _, _, _, _, _, _, _, _, _, _, _, _, _, _, _, _, undef, _, _, _, _, _, _, _, _, _, _, _, _], []⟩) rfl rfl ?_
      refine D.skip (fr1 := ⟨[_, _, _, _, _, _, _, _, _, _, _, _, _, _, _, _, _, _, _, _, _, _, _, undef, _, _, _, _, _, _, _, _, _, _, _], []⟩) rfl rfl ?_
      refine D.skip (fr1 := ⟨[_, _, _, _, _, _, _, _, _, _, _, _, _, _, _, _, _, _, _, _, _, _, _, _, undef, _, _, _, _, _, _, _, _, _, _], []⟩) rfl rfl ?_
      refine D.skip (fr1 := ⟨[_, _, _, _, _, _, _, _, _, _, _, _, _, _, _, _, _, _, _, _, _, _, _, _, _, undef, _, _, _, _, _, _, _, _, _], []⟩) rfl rfl ?_
      refine D.skip (fr1 := ⟨[_, _, _, _, _, _, _, _, _, _, _, _, _, _, _, _, _, _, _, _, _, _, _, _, _, _, undef, _, _, _, _, _, _, _, _], []⟩) rfl rfl ?_
      refine D.skip (fr1 := ⟨[_, _, _, _, _, _, _, _, _, _, _, _, _, _, _, _, _, _, _, _, _, _, _, _, _, _, _, undef, _, _, _, _, _, _, _], []⟩) rfl rfl ?_
      refine D.skip (fr1 := ⟨[_, _, _, _, _, _, _, _, _, _, _, _, _, _, _, _, _, _, _, _, _, _, _, _, _, _, _, _, undef, _, _, _, _, _, _], []⟩) rfl rfl ?_
      refine D.skip (fr1 := ⟨[_, _, _, _, _, _, _, _, _, _, _, _, _, _, _, _, _, _, _, _, _, _, _, _, _, _, _, _, _, undef, _, _, _, _, _], []⟩) rfl rfl ?_
      refine D.skip (fr1 := ⟨[_, _, _, _, _, _, _, _, _, _, _, _, _, _, _, _, _, _, _, _, _, _, _, _, _, _, _, _, _, _, undef, _, _, _, _], []⟩) rfl rfl ?_
      refine D.op (v := .bool true) (fr1 := ⟨[_, _, _, _, _, _, _, _, _, _, _, _, _, _, _, _, _, _, _, _, _, _, _, _, _, _, _, _, _, _, _, .bool true, _, _, _], []⟩) rfl rfl rfl rfl rfl ?_
      refine D.nil ?_
      refine Ends.condT rfl ?_
      refine Ends.seq ?_
      refine Ends.region ?_
      refine W.op (v := .bool false) (fr1 := ⟨[_, _, _, _, .bool false, _, _, _, _, _, _, _, _, _, _, _, _, _, _, _, _, _, _, _, _, _, _, _, _, _, _, _, _, _, _], []⟩) rfl rfl rfl rfl ?_
      refine EndsOps.nil ?_
      refine Ends.ret ?_
      exact ⟨rfl, rfl, hO40, by
        show Value.bool false = .bool (decide (Right l n))
        exact congrArg Value.bool (decide_eq_false fun hR => h20 (hR.2 i (by omega) _ he6).1).symm⟩
  · skip
    refine W.op (v := .bool false) (fr1 := ⟨[_, _, _, _, _, _, _, _, _, _, .bool false, _, _, _, _, _, _, _, _, _, _, _, _, _, _, _, _, _, _, _, _, _, _, _, _], []⟩) rfl (p_bin (ltF h4)) rfl rfl ?_
    refine EndsOps.nil ?_
    refine Ends.seq ?_
    refine Ends.condF rfl ?_
    refine Ends.exit ?_
    refine W.outT rfl ?_
    refine Ends.seq ?_
    refine Ends.region ?_
    refine W.op (v := .int .i64 n) (fr1 := ⟨[_, _, _, _, _, _, _, _, _, _, _, _, _, _, _, _, _, _, _, _, _, _, _, _, _, _, _, _, _, _, _, _, _, .int .i64 n, _], []⟩) rfl rfl rfl rfl ?_
    by_cases h43 : (0 : Int) ≤ n
    · skip
      refine W.op (v := .bool true) (fr1 := ⟨[_, _, _, _, _, _, _, _, _, _, _, _, _, _, _, _, _, _, _, _, _, _, _, _, _, _, _, _, _, _, _, _, _, _, .bool true], []⟩) rfl (p_bin (geT h43)) rfl rfl ?_
      refine W.op (v := .bool true) (fr1 := ⟨[_, _, _, _, .bool true, _, _, _, _, _, _, _, _, _, _, _, _, _, _, _, _, _, _, _, _, _, _, _, _, _, _, _, _, _, _], []⟩) rfl rfl rfl rfl ?_
      refine EndsOps.nil ?_
      refine Ends.ret ?_
      exact ⟨rfl, rfl, hO2, by
        show Value.bool true = .bool (decide (Right l n))
        exact congrArg Value.bool (decide_eq_true ⟨by omega, fun k hk => hok k (by omega)⟩).symm⟩
    · skip
      refine W.op (v := .bool false) (fr1 := ⟨[_, _, _, _, _, _, _, _, _, _, _, _, _, _, _, _, _, _, _, _, _, _, _, _, _, _, _, _, _, _, _, _, _, _, .bool false], []⟩) rfl (p_bin (geF h43)) rfl rfl ?_
      refine W.op (v := .bool false) (fr1 := ⟨[_, _, _, _, .bool false, _, _, _, _, _, _, _, _, _, _, _, _, _, _, _, _, _, _, _, _, _, _, _, _, _, _, _, _, _, _], []⟩) rfl rfl rfl rfl ?_
      refine EndsOps.nil ?_
      refine Ends.ret ?_
      exact ⟨rfl, rfl, hO2, by
        show Value.bool false = .bool (decide (Right l n))
        exact congrArg Value.bool (decide_eq_false fun hR => by have := hR.1; omega).symm⟩

theorem c23 (al : Option Addr) (l : List Ed) (cl Nl ol : Nat) (vl : List Value) (yl zl : Nat) (n : Int) (s : St) (Hl : Sl Ed.cells 3 s.t s.next al l Nl ol vl yl zl)  : EndsPure R1.T 23 [.slice al l.length cl, .int .i64 n] s (fun v _ _ => v = .bool (decide (Right l n))) := by
  refine EndsPure.of (rs := [4]) (fr0 := ⟨[.slice al l.length cl, .int .i64 n, undef, undef, undef, undef, undef, undef, undef, undef, undef, undef, undef, undef, undef, undef, undef, undef, undef, undef, undef, undef, undef, undef, undef, undef, undef, undef, undef, undef, undef, undef, undef, undef, undef, undef, undef, undef, undef, undef, undef, undef, undef, undef, undef, undef, undef, undef, undef, undef, undef], []⟩) (by kernel_rfl : R1.T.fn 23 = some ⟨51, (Try.f23.body).getD .skip, [.tmp 4]⟩) rfl ?_
  have hO0 := Own.refl s
  have Ml := Hl.small
  simp only [Try.f23, Option.getD]
  refine Ends.seq ?_
  refine Ends.region ?_
  refine W.op (v := .bool false) (fr1 := ⟨[_, _, _, _, .bool false, _, _, _, _, _, _, _, _, _, _, _, _, _, _, _, _, _, _, _, _, _, _, _, _, _, _, _, _, _, _, _, _, _, _, _, _, _, _, _, _, _, _, _, _, _, _], []⟩) rfl rfl rfl rfl ?_
  refine EndsOps.nil ?_
  refine Ends.seq ?_
  refine Ends.seq ?_
  refine Ends.region ?_
  refine W.op (v := .int .i64 n) (fr1 := ⟨[_, _, _, _, _, _, .int .i64 n, _, _, _, _, _, _, _, _, _, _, _, _, _, _, _, _, _, _, _, _, _, _, _, _, _, _, _, _, _, _, _, _, _, _, _, _, _, _, _, _, _, _, _, _], []⟩) rfl rfl rfl rfl ?_
  by_cases h1 : n < 0
  · skip
    refine W.op (v := .bool true) (fr1 := ⟨[_, _, _, _, _, _, _, .bool true, _, _, _, _, _, _, _, _, _, _, _, _, _, _, _, _, _, _, _, _, _, _, _, _, _, _, _, _, _, _, _, _, _, _, _, _, _, _, _, _, _, _, _], []⟩) rfl (p_bin (ltT h1)) rfl rfl ?_
    refine EndsOps.nil ?_
    refine Ends.condT rfl ?_
    refine Ends.seq ?_
    refine Ends.region ?_
    refine W.op (v := .bool false) (fr1 := ⟨[_, _, _, _, .bool false, _, _, _, _, _, _, _, _, _, _, _, _, _, _, _, _, _, _, _, _, _, _, _, _, _, _, _, _, _, _, _, _, _, _, _, _, _, _, _, _, _, _, _, _, _, _], []⟩) rfl rfl rfl rfl ?_
    refine EndsOps.nil ?_
    refine Ends.ret ?_
    exact ⟨rfl, rfl, hO0, by
      show Value.bool false = .bool (decide (Right l n))
      exact congrArg Value.bool (decide_eq_false fun hR => by have := hR.1; omega).symm⟩
  · skip
    refine W.op (v := .bool false) (fr1 := ⟨[_, _, _, _, _, _, _, .bool false, _, _, _, _, _, _, _, _, _, _, _, _, _, _, _, _, _, _, _, _, _, _, _, _, _, _, _, _, _, _, _, _, _, _, _, _, _, _, _, _, _, _, _], []⟩) rfl (p_bin (ltF h1)) rfl rfl ?_
    refine EndsOps.nil ?_
    refine Ends.condF rfl ?_
    refine Ends.skip ?_
    refine Ends.seq ?_
    refine Ends.seq ?_
    refine Ends.region ?_
    refine W.op (v := .int .i64 0) (fr1 := ⟨[_, _, _, _, _, .int .i64 0, _, _, _, _, _, _, _, _, _, _, _, _, _, _, _, _, _, _, _, _, _, _, _, _, _, _, _, _, _, _, _, _, _, _, _, _, _, _, _, _, _, _, _, _, _], []⟩) rfl rfl rfl rfl ?_
    refine EndsOps.nil ?_
    refine W.block ?_
    refine Ends.loopInv (fun d fr s1 => ∃ (i : Nat) (j4 j8 j9 j10 j11 j12 j13 j14 j15 j16 j17 j18 j19 j20 j21 j22 j23 j24 j25 j26 j27 j28 j29 j30 j31 j32 j33 j34 j35 j36 j37 j38 j39 j40 j41 j42 j43 j44 j45 j46 j47 j48 j49 j50 : Value), fr = ⟨[.slice al l.length cl, .int .i64 n, undef, undef, j4, .int .i64 ((i : Nat) : Int), .int .i64 n, .bool false, j8, j9, j10, j11, j12, j13, j14, j15, j16, j17, j18, j19, j20, j21, j22, j23, j24, j25, j26, j27, j28, j29, j30, j31, j32, j33, j34, j35, j36, j37, j38, j39, j40, j41, j42, j43, j44, j45, j46, j47, j48, j49, j50], []⟩ ∧ Own s s1 ∧ d = l.length - i ∧ (i ≤ l.length) ∧ (Ok l n i)) ?_ _ _ _ ⟨0, _, _, _, _, _, _, _, _, _, _, _, _, _, _, _, _, _, _, _, _, _, _, _, _, _, _, _, _, _, _, _, _, _, _, _, _, _, _, _, _, _, _, _, _, rfl, hO0, rfl, Nat.zero_le _, (fun k hk => absurd hk (Nat.not_lt_zero k))⟩
    rintro d _ s2 ⟨i, j4, j8, j9, j10, j11, j12, j13, j14, j15, j16, j17, j18, j19, j20, j21, j22, j23, j24, j25, j26, j27, j28, j29, j30, j31, j32, j33, j34, j35, j36, j37, j38, j39, j40, j41, j42, j43, j44, j45, j46, j47, j48, j49, j50, rfl, hO3, hd4, hi, hok⟩
    refine Ends.seq ?_
    refine Ends.seq ?_
    refine Ends.region ?_
    refine W.op (v := .int .i64 ((i : Nat) : Int)) (fr1 := ⟨[_, _, _, _, _, _, _, _, .int .i64 ((i : Nat) : Int), _, _, _, _, _, _, _, _, _, _, _, _, _, _, _, _, _, _, _, _, _, _, _, _, _, _, _, _, _, _, _, _, _, _, _, _, _, _, _, _, _, _], []⟩) rfl rfl rfl rfl ?_
    refine W.op (v := .slice al l.length cl) (fr1 := ⟨[_, _, _, _, _, _, _, _, _, .slice al l.length cl, _, _, _, _, _, _, _, _, _, _, _, _, _, _, _, _, _, _, _, _, _, _, _, _, _, _, _, _, _, _, _, _, _, _, _, _, _, _, _, _, _], []⟩) rfl rfl rfl rfl ?_
    refine W.op (v := .int .i64 ((l.length : Nat) : Int)) (fr1 := ⟨[_, _, _, _, _, _, _, _, _, _, .int .i64 ((l.length : Nat) : Int), _, _, _, _, _, _, _, _, _, _, _, _, _, _, _, _, _, _, _, _, _, _, _, _, _, _, _, _, _, _, _, _, _, _, _, _, _, _, _, _], []⟩) rfl rfl rfl rfl ?_
    by_cases h5 : ((i : Nat) : Int) < ((l.length : Nat) : Int)
    · skip
      refine W.op (v := .bool true) (fr1 := ⟨[_, _, _, _, _, _, _, _, _, _, _, .bool true, _, _, _, _, _, _, _, _, _, _, _, _, _, _, _, _, _, _, _, _, _, _, _, _, _, _, _, _, _, _, _, _, _, _, _, _, _, _, _], []⟩) rfl (p_bin (ltT h5)) rfl rfl ?_
      refine EndsOps.nil ?_
      refine Ends.condT rfl ?_
      refine Ends.skip ?_
      refine Ends.seq ?_
      refine W.block ?_
      refine Ends.seq ?_
      refine Ends.seq ?_
      refine Ends.region ?_
      refine W.op (v := .slice al l.length cl) (fr1 := ⟨[_, _, _, _, _, _, _, _, _, _, _, _, _, _, .slice al l.length cl, _, _, _, _, _, _, _, _, _, _, _, _, _, _, _, _, _, _, _, _, _, _, _, _, _, _, _, _, _, _, _, _, _, _, _, _], []⟩) rfl rfl rfl rfl ?_
      refine W.op (v := .int .i64 ((i : Nat) : Int)) (fr1 := ⟨[_, _, _, _, _, _, _, _, _, _, _, _, _, _, _, .int .i64 ((i : Nat) : Int), _, _, _, _, _, _, _, _, _, _, _, _, _, _, _, _, _, _, _, _, _, _, _, _, _, _, _, _, _, _, _, _, _, _, _], []⟩) rfl rfl rfl rfl ?_
      obtain ⟨e6, he7⟩ := ex_at (l := l) (i := i) (by omega)
      refine W.op (v := .pointer (some ⟨Nl, ol + i * 3, none⟩)) (fr1 := ⟨[_, _, _, _, _, _, _, _, _, _, _, _, _, _, _, _, .pointer (some ⟨Nl, ol + i * 3, none⟩), _, _, _, _, _, _, _, _, _, _, _, _, _, _, _, _, _, _, _, _, _, _, _, _, _, _, _, _, _, _, _, _, _, _], []⟩) rfl (p_ix (Sl.ix Hl rfl rfl he7 _)) rfl rfl ?_
      refine W.op (v := .agg ⟨[.int .i64 e6.lo, .int .i64 e6.hi, .string e6.tx]⟩) (fr1 := ⟨[_, _, _, _, _, _, _, _, _, _, _, _, _, _, _, _, _, .agg ⟨[.int .i64 e6.lo, .int .i64 e6.hi, .string e6.tx]⟩, _, _, _, _, _, _, _, _, _, _, _, _, _, _, _, _, _, _, _, _, _, _, _, _, _, _, _, _, _, _, _, _, _], []⟩) rfl (p_loadA (Sl.row' (Hl.own hO3) he7) rfl rfl rfl rfl ((Hl.own hO3).get _ _ he7)) rfl rfl ?_
      refine W.op (v := .int .i64 n) (fr1 := ⟨[_, _, _, _, _, _, _, _, _, _, _, _, _, _, _, _, _, _, .int .i64 n, _, _, _, _, _, _, _, _, _, _, _, _, _, _, _, _, _, _, _, _, _, _, _, _, _, _, _, _, _, _, _, _], []⟩) rfl rfl rfl rfl ?_
      by_cases h8 : Within e6 n
      · skip
        refine W.call (ar := [.agg ⟨[.int .i64 e6.lo, .int .i64 e6.hi, .string e6.tx]⟩, .int .i64 n]) (X := .bool true) (fr1 := ⟨[_, _, _, _, _, _, _, _, _, _, _, _, _, _, _, _, _, _, _, .bool true, _, _, _, _, _, _, _, _, _, _, _, _, _, _, _, _, _, _, _, _, _, _, _, _, _, _, _, _, _, _, _], []⟩) hO3 rfl rfl rfl rfl ((c67 e6 n _).mono fun v _ _ h => h.trans (congrArg Value.bool (decide_eq_true h8))) rfl ?_
        intro s9 hO10 hS11
        refine W.op (v := .bool false) (fr1 := ⟨[_, _, _, _, _, _, _, _, _, _, _, _, _, _, _, _, _, _, _, _, .bool false, _, _, _, _, _, _, _, _, _, _, _, _, _, _, _, _, _, _, _, _, _, _, _, _, _, _, _, _, _, _], []⟩) rfl rfl rfl rfl ?_
        refine EndsOps.nil ?_
        refine Ends.condF rfl ?_
        refine Ends.skip ?_
        refine Ends.seq ?_
        refine Ends.drawW (bef := [0, 1, 3, 7, 7, 31, 63, 127, 7, 7, 519, 1799, 3847, 7943, 16383, 32767, 65535, 65535, 262143, 524287, 1048575, 65535, 65535, 4259839, 14745599, 31522815, 65077247, 134217727, 268435455, 536870911]) (by kernel_rfl) ?_
        refine D.op (v := .int .i64 ((i : Nat) : Int)) (fr1 := ⟨[_, _, _, _, _, _, _, _, _, _, _, _, _, _, _, _, _, _, _, _, _, .int .i64 ((i : Nat) : Int), _, _, _, _, _, _, _, _, _, _, _, _, _, _, _, _, _, _, _, _, _, _, _, _, _, _, _, _, _], []⟩) rfl rfl rfl rfl rfl ?_
        by_cases h12 : (0 : Int) < ((i : Nat) : Int)
        · skip
          refine D.op (v := .bool true) (fr1 := ⟨[_, _, _, _, _, _, _, _, _, _, _, _, _, _, _, _, _, _, _, _, _, _, .bool true, _, _, _, _, _, _, _, _, _, _, _, _, _, _, _, _, _, _, _, _, _, _, _, _, _, _, _, _], []⟩) rfl (p_bin (gtT h12)) rfl rfl rfl ?_
          refine D.op (v := .bool true) (fr1 := ⟨[_, _, _, _, _, _, _, _, _, _, _, _, _, _, _, _, _, _, _, _, _, _, _, .bool true, _, _, _, _, _, _, _, _, _, _, _, _, _, _, _, _, _, _, _, _, _, _, _, _, _, _, _], []⟩) rfl rfl rfl rfl rfl ?_
          refine D.op (v := .slice al l.length cl) (fr1 := ⟨[_, _, _, _, _, _, _, _, _, _, _, _, _, _, _, _, _, _, _, _, _, _, _, _, .slice al l.length cl, _, _, _, _, _, _, _, _, _, _, _, _, _, _, _, _, _, _, _, _, _, _, _, _, _, _], []⟩) rfl rfl rfl rfl rfl ?_
          refine D.op (v := .int .i64 ((i : Nat) : Int)) (fr1 := ⟨[_, _, _, _, _, _, _, _, _, _, _, _, _, _, _, _, _, _, _, _, _, _, _, _, _, .int .i64 ((i : Nat) : Int), _, _, _, _, _, _, _, _, _, _, _, _, _, _, _, _, _, _, _, _, _, _, _, _, _], []⟩) rfl rfl rfl rfl rfl ?_
          refine D.op (v := .pointer (some ⟨Nl, ol + i * 3, none⟩)) (fr1 := ⟨[_, _, _, _, _, _, _, _, _, _, _, _, _, _, _, _, _, _, _, _, _, _, _, _, _, _, .pointer (some ⟨Nl, ol + i * 3, none⟩), _, _, _, _, _, _, _, _, _, _, _, _, _, _, _, _, _, _, _, _, _, _, _, _], []⟩) rfl (p_ix (Sl.ix Hl rfl rfl he7 _)) rfl rfl rfl ?_
          refine D.op (v := .pointer (some ⟨Nl, ol + i * 3 + 0, none⟩)) (fr1 := ⟨[_, _, _, _, _, _, _, _, _, _, _, _, _, _, _, _, _, _, _, _, _, _, _, _, _, _, _, .pointer (some ⟨Nl, ol + i * 3 + 0, none⟩), _, _, _, _, _, _, _, _, _, _, _, _, _, _, _, _, _, _, _, _, _, _, _], []⟩) rfl rfl rfl rfl rfl ?_
          refine D.load (v := .int .i64 e6.lo) (fr1 := ⟨[_, _, _, _, _, _, _, _, _, _, _, _, _, _, _, _, _, _, _, _, _, _, _, _, _, _, _, _, .int .i64 e6.lo, _, _, _, _, _, _, _, _, _, _, _, _, _, _, _, _, _, _, _, _, _, _], []⟩) rfl rfl rfl (fun _ h => by cases h) (fun s1 hg => (p_load1 ⟨hg.trans ((Sl.row' (Hl.own hO10) he7)).get, ((Sl.row' (Hl.own hO10) he7)).lt⟩ rfl rfl rfl ((Hl.own hO10).at he7 rfl))) rfl ?_
          refine D.op (v := .slice al l.length cl) (fr1 := ⟨[_, _, _, _, _, _, _, _, _, _, _, _, _, _, _, _, _, _, _, _, _, _, _, _, _, _, _, _, _, .slice al l.length cl, _, _, _, _, _, _, _, _, _, _, _, _, _, _, _, _, _, _, _, _, _], []⟩) rfl rfl rfl rfl rfl ?_
          refine D.op (v := .int .i64 ((i : Nat) : Int)) (fr1 := ⟨[_, _, _, _, _, _, _, _, _, _, _, _, _, _, _, _, _, _, _, _, _, _, _, _, _, _, _, _, _, _, .int .i64 ((i : Nat) : Int), _, _, _, _, _, _, _, _, _, _, _, _, _, _, _, _, _, _, _, _], []⟩) rfl rfl rfl rfl rfl ?_
          obtain ⟨q13, hq14⟩ : ∃ q : Nat, (q : Int) = ((i : Nat) : Int) - 1 := ⟨(i - 1), by omega⟩
          refine D.op (v := .int .i64 ((q13 : Nat) : Int)) (fr1 := ⟨[_, _, _, _, _, _, _, _, _, _, _, _, _, _, _, _, _, _, _, _, _, _, _, _, _, _, _, _, _, _, _, .int .i64 ((q13 : Nat) : Int), _, _, _, _, _, _, _, _, _, _, _, _, _, _, _, _, _, _, _], []⟩) rfl (p_bin (subI (by omega) (by omega) (by omega))) rfl rfl rfl ?_
          obtain ⟨e15, he16⟩ := ex_at (l := l) (i := q13) (by omega)
          refine D.op (v := .pointer (some ⟨Nl, ol + q13 * 3, none⟩)) (fr1 := ⟨[_, _, _, _, _, _, _, _, _, _, _, _, _, _, _, _, _, _, _, _, _, _, _, _, _, _, _, _, _, _, _, _, .pointer (some ⟨Nl, ol + q13 * 3, none⟩), _, _, _, _, _, _, _, _, _, _, _, _, _, _, _, _, _, _], []⟩) rfl (p_ix (Sl.ix Hl rfl rfl he16 _)) rfl rfl rfl ?_
          refine D.op (v := .pointer (some ⟨Nl, ol + q13 * 3 + 1, none⟩)) (fr1 := ⟨[_, _, _, _, _, _, _, _, _, _, _, _, _, _, _, _, _, _, _, _, _, _, _, _, _, _, _, _, _, _, _, _, _, .pointer (some ⟨Nl, ol + q13 * 3 + 1, none⟩), _, _, _, _, _, _, _, _, _, _, _, _, _, _, _, _, _], []⟩) rfl rfl rfl rfl rfl ?_
          refine D.load (v := .int .i64 e15.hi) (fr1 := ⟨[_, _, _, _, _, _, _, _, _, _, _, _, _, _, _, _, _, _, _, _, _, _, _, _, _, _, _, _, _, _, _, _, _, _, .int .i64 e15.hi, _, _, _, _, _, _, _, _, _, _, _, _, _, _, _, _], []⟩) rfl rfl rfl (fun _ h => by cases h) (fun s1 hg => (p_load1 ⟨hg.trans ((Sl.row' (Hl.own hO10) he16)).get, ((Sl.row' (Hl.own hO10) he16)).lt⟩ rfl rfl rfl ((Hl.own hO10).at he16 rfl))) rfl ?_
          by_cases h17 : e6.lo < e15.hi
          · skip
            refine D.op (v := .bool true) (fr1 := ⟨[_, _, _, _, _, _, _, _, _, _, _, _, _, _, _, _, _, _, _, _, _, _, _, _, _, _, _, _, _, _, _, _, _, _, _, .bool true, _, _, _, _, _, _, _, _, _, _, _, _, _, _, _], []⟩) rfl (p_bin (ltT h17)) rfl rfl rfl ?_
            refine D.op (v := .bool true) (fr1 := ⟨[_, _, _, _, _, _, _, _, _, _, _, _, _, _, _, _, _, _, _, _, _, _, _, _, _, _, _, _, _, _, _, _, _, _, _, _, .bool true, _, _, _, _, _, _, _, _, _, _, _, _, _, _], []⟩) rfl rfl rfl rfl rfl ?_
            refine D.skip (fr1 := ⟨[_, _, _, _, _, _, _, _, _, _, _, _, _, _, _, _, _, _, _, _, _, _, _, _, _, _, _, _, _, _, _, _, _, _, _, _, _, undef, _, _, _, _, _, _, _, _, _, _, _, _, _], []⟩) rfl rfl ?_
            refine D.skip (fr1 := ⟨[_, _, _, _, _, _, _, _, _, _, _, _, _, _, _, _, _, _, _, _, _, _, _, _, _, _, _, _, _, _, _, _, _, _, _, _, _, _, undef, _, _, _, _, _, _, _, _, _, _, _, _], []⟩) rfl rfl ?_
            refine D.skip (fr1 := ⟨[_, _, _, _, _, _, _, _, _, _, _, _, _, _, _, _, _, _, _, _, _, _, _, _, _, _, _, _, _, _, _, _, _, _, _, _, _, _, _, undef, _, _, _, _, _, _, _, _, _, _, _], []⟩) rfl rfl ?_
            refine D.skip (fr1 := ⟨[_, _, _, _, _, _, _, _, _, _, _, _, _, _, _, _, _, _, _, _, _, _, _, _, _, _, _, _, _, _, _, _, _, _, _, _, _, _, _, _, undef, _, _, _, _, _, _, _, _, _, _], []⟩) rfl rfl ?_
            refine D.skip (fr1 := ⟨[_, _, _, _, _, _, _, _, _, _, _, _, _, _, _, _, _, _, _, _, _, _, _, _, _, _, _, _, _, _, _, _, _, _, _, _, _, _, _, _, _, undef, _, _, _, _, _, _, _, _, _], []⟩) rfl rfl ?_
            refine D.skip (fr1 := ⟨[_, _, _, _, _, _, _, _, _, _, _, _, _, _, _, _, _, _, _, _, _, _, _, _, _, _, _, _, _, _, _, _, _, _, _, _, _, _, _, _, _, _, undef, _, _, _, _, _, _, _, _], []⟩) rfl rfl ?_
            refine D.skip (fr1 := ⟨[_, _, _, _, _, _, _, _, _, _, _, _, _, _, _, _, _, _, _, _, _, _, _, _, _, _, _, _, _, _, _, _, _, _, _, _, _, _, _, _, _, _, _, undef, _, _, _, _, _, _, _], []⟩) rfl rfl ?_
            refine D.skip (fr1 := ⟨[_, _, _, _, _, _, _, _, _, _, _, _, _, _, _, _, _, _, _, _, _, _, _, _, _, _, _, _, _, _, _, _, _, _, _, _, _, _, _, _, _, _, _, _, undef, _, _, _, _, _, _], []⟩) rfl rfl ?_
            refine D.skip (fr1 := ⟨[_, _, _, _, _, _, _, _, _, _, _, _, _, _, _, _, _, _, _, _, _, _, _, _, _, _, _, _, _, _, _, _, _, _, _, _, _, _, _, _, _, _, _, _, _, undef, _, _, _, _, _], []⟩) rfl rfl ?_
            refine D.skip (fr1 := ⟨[_, _, _, _, _, _, _, _, _, _, _, _, _, _, _, _, _, _, _, _, _, _, _, _, _, _, _, _, _, _, _, _, _, _, _, _, _, _, _, _, _, _, _, _, _, _, undef, _, _, _, _], []⟩) rfl rfl ?_
            refine D.skip (fr1 := ⟨[_, _, _, _, _, _, _, _, _, _, _, _, _, _, _, _, _, _, _, _, _, _, _, _, _, _, _, _, _, _, _, _, _, _, _, _, _, _, _, _, _, _, _, _, _, _, _, undef, _, _, _], []⟩) rfl rfl ?_
            refine D.skip (fr1 := ⟨[_, _, _, _, _, _, _, _, _, _, _, _, _, _, _, _, _, _, _, _, _, _, _, _, _, _, _, _, _, _, _, _, _, _, _, _, _, _, _, _, _, _, _, _, _, _, _, _, undef, _, _], []⟩) rfl rfl ?_
            refine D.op (v := .bool true) (fr1 := ⟨[_, _, _, _, _, _, _, _, _, _, _, _, _, _, _, _, _, _, _, _, _, _, _, _, _, _, _, _, _, _, _, _, _, _, _, _, _, _, _, _, _, _, _, _, _, _, _, _, _, .bool true, _], []⟩) rfl rfl rfl rfl rfl ?_
            refine D.op (v := .bool true) (fr1 := ⟨[_, _, _, _, _, _, _, _, _, _, _, _, _, _, _, _, _, _, _, _, _, _, _, _, _, _, _, _, _, _, _, _, _, _, _, _, _, _, _, _, _, _, _, _, _, _, _, _, _, _, .bool true], []⟩) rfl rfl rfl rfl rfl ?_
            refine D.nil ?_
            refine Ends.condT rfl ?_
            refine Ends.seq ?_
            refine Ends.region ?_
            refine W.op (v := .bool false) (fr1 := ⟨[_, _, _, _, .bool false, _, _, _, _, _, _, _, _, _, _, _, _, _, _, _, _, _, _, _, _, _, _, _, _, _, _, _, _, _, _, _, _, _, _, _, _, _, _, _, _, _, _, _, _, _, _], []⟩) rfl rfl rfl rfl ?_
            refine EndsOps.nil ?_
            refine Ends.ret ?_
            exact ⟨rfl, rfl, hO10, by
              show Value.bool false = .bool (decide (Right l n))
              exact congrArg Value.bool (decide_eq_false fun hR => by have := hR.at he7 he16 (by omega); simp only [Behind] at *; omega).symm⟩
          · skip
            refine D.op (v := .bool false) (fr1 := ⟨[_, _, _, _, _, _, _, _, _, _, _, _, _, _, _, _, _, _, _, _, _, _, _, _, _, _, _, _, _, _, _, _, _, _, _, .bool false, _, _, _, _, _, _, _, _, _, _, _, _, _, _, _], []⟩) rfl (p_bin (ltF h17)) rfl rfl rfl ?_
            refine D.op (v := .bool false) (fr1 := ⟨[_, _, _, _, _, _, _, _, _, _, _, _, _, _, _, _, _, _, _, _, _, _, _, _, _, _, _, _, _, _, _, _, _, _, _, _, .bool false, _, _, _, _, _, _, _, _, _, _, _, _, _, _], []⟩) rfl rfl rfl rfl rfl ?_
            refine D.op (v := .slice al l.length cl) (fr1 := ⟨[_, _, _, _, _, _, _, _, _, _, _, _, _, _, _, _, _, _, _, _, _, _, _, _, _, _, _, _, _, _, _, _, _, _, _, _, _, .slice al l.length cl, _, _, _, _, _, _, _, _, _, _, _, _, _], []⟩) rfl rfl rfl rfl rfl ?_
            refine D.op (v := .int .i64 ((i : Nat) : Int)) (fr1 := ⟨[_, _, _, _, _, _, _, _, _, _, _, _, _, _, _, _, _, _, _, _, _, _, _, _, _, _, _, _, _, _, _, _, _, _, _, _, _, _, .int .i64 ((i : Nat) : Int), _, _, _, _, _, _, _, _, _, _, _, _], []⟩) rfl rfl rfl rfl rfl ?_
            refine D.op (v := .pointer (some ⟨Nl, ol + i * 3, none⟩)) (fr1 := ⟨[_, _, _, _, _, _, _, _, _, _, _, _, _, _, _, _, _, _, _, _, _, _, _, _, _, _, _, _, _, _, _, _, _, _, _, _, _, _, _, .pointer (some ⟨Nl, ol + i * 3, none⟩), _, _, _, _, _, _, _, _, _, _, _], []⟩) rfl (p_ix (Sl.ix Hl rfl rfl he7 _)) rfl rfl rfl ?_
            refine D.op (v := .pointer (some ⟨Nl, ol + i * 3 + 0, none⟩)) (fr1 := ⟨[_, _, _, _, _, _, _, _, _, _, _, _, _, _, _, _, _, _, _, _, _, _, _, _, _, _, _, _, _, _, _, _, _, _, _, _, _, _, _, _, .pointer (some ⟨Nl, ol + i * 3 + 0, none⟩), _, _, _, _, _, _, _, _, _, _], []⟩) rfl rfl rfl rfl rfl ?_
            refine D.load (v := .int .i64 e6.lo) (fr1 := ⟨[_, _, _, _, _, _, _, _, _, _, _, _, _, _, _, _, _, _, _, _, _, _, _, _, _, _, _, _, _, _, _, _, _, _, _, _, _, _, _, _, _, .int .i64 e6.lo, _, _, _, _, _, _, _, _, _], []⟩) rfl rfl rfl (fun _ h => by cases h) (fun s1 hg => (p_load1 ⟨hg.trans ((Sl.row' (Hl.own hO10) he7)).get, ((Sl.row' (Hl.own hO10) he7)).lt⟩ rfl rfl rfl ((Hl.own hO10).at he7 rfl))) rfl ?_
            refine D.op (v := .slice al l.length cl) (fr1 := ⟨[_, _, _, _, _, _, _, _, _, _, _, _, _, _, _, _, _, _, _, _, _, _, _, _, _, _, _, _, _, _, _, _, _, _, _, _, _, _, _, _, _, _, .slice al l.length cl, _, _, _, _, _, _, _, _], []⟩) rfl rfl rfl rfl rfl ?_
            refine D.op (v := .int .i64 ((i : Nat) : Int)) (fr1 := ⟨[_, _, _, _, _, _, _, _, _, _, _, _, _, _, _, _, _, _, _, _, _, _, _, _, _, _, _, _, _, _, _, _, _, _, _, _, _, _, _, _, _, _, _, .int .i64 ((i : Nat) : Int), _, _, _, _, _, _, _], []⟩) rfl rfl rfl rfl rfl ?_
            refine D.op (v := .int .i64 ((q13 : Nat) : Int)) (fr1 := ⟨[_, _, _, _, _, _, _, _, _, _, _, _, _, _, _, _, _, _, _, _, _, _, _, _, _, _, _, _, _, _, _, _, _, _, _, _, _, _, _, _, _, _, _, _, .int .i64 ((q13 : Nat) : Int), _, _, _, _, _, _], []⟩) rfl (p_bin (subI (by omega) (by omega) (by omega))) rfl rfl rfl ?_
            refine D.op (v := .pointer (some ⟨Nl, ol + q13 * 3, none⟩)) (fr1 := ⟨[_, _, _, _, _, _, _, _, _, _, _, _, _, _, _, _, _, _, _, _, _, _, _, _, _, _, _, _, _, _, _, _, _, _, _, _, _, _, _, _, _, _, _, _, _, .pointer (some ⟨Nl, ol + q13 * 3, none⟩), _, _, _, _, _], []⟩) rfl (p_ix (Sl.ix Hl rfl rfl he16 _)) rfl rfl rfl ?_
            refine D.op (v := .pointer (some ⟨Nl, ol + q13 * 3 + 0, none⟩)) (fr1 := ⟨[_, _, _, _, _, _, _, _, _, _, _, _, _, _, _, _, _, _, _, _, _, _, _, _, _, _, _, _, _, _, _, _, _, _, _, _, _, _, _, _, _, _, _, _, _, _, .pointer (some ⟨Nl, ol + q13 * 3 + 0, none⟩), _, _, _, _], []⟩) rfl rfl rfl rfl rfl ?_
            refine D.load (v := .int .i64 e15.lo) (fr1 := ⟨[_, _, _, _, _, _, _, _, _, _, _, _, _, _, _, _, _, _, _, _, _, _, _, _, _, _, _, _, _, _, _, _, _, _, _, _, _, _, _, _, _, _, _, _, _, _, _, .int .i64 e15.lo, _, _, _], []⟩) rfl rfl rfl (fun _ h => by cases h) (fun s1 hg => (p_load1 ⟨hg.trans ((Sl.row' (Hl.own hO10) he16)).get, ((Sl.row' (Hl.own hO10) he16)).lt⟩ rfl rfl rfl ((Hl.own hO10).at he16 rfl))) rfl ?_
            by_cases h18 : e6.lo = e15.lo
            · skip
              refine D.op (v := .bool true) (fr1 := ⟨[_, _, _, _, _, _, _, _, _, _, _, _, _, _, _, _, _, _, _, _, _, _, _, _, _, _, _, _, _, _, _, _, _, _, _, _, _, _, _, _, _, _, _, _, _, _, _, _, .bool true, _, _], []⟩) rfl (p_bin (eqT h18)) rfl rfl rfl ?_
              refine D.op (v := .bool true) (fr1 := ⟨[_, _, _, _, _, _, _, _, _, _, _, _, _, _, _, _, _, _, _, _, _, _, _, _, _, _, _, _, _, _, _, _, _, _, _, _, _, _, _, _, _, _, _, _, _, _, _, _, _, .bool true, _], []⟩) rfl rfl rfl rfl rfl ?_
              refine D.op (v := .bool true) (fr1 := ⟨[_, _, _, _, _, _, _, _, _, _, _, _, _, _, _, _, _, _, _, _, _, _, _, _, _, _, _, _, _, _, _, _, _, _, _, _, _, _, _, _, _, _, _, _, _, _, _, _, _, _, .bool true], []⟩) rfl rfl rfl rfl rfl ?_
              refine D.nil ?_
              refine Ends.condT rfl ?_
              refine Ends.seq ?_
              refine Ends.region ?_
              refine W.op (v := .bool false) (fr1 := ⟨[_, _, _, _, .bool false, _, _, _, _, _, _, _, _, _, _, _, _, _, _, _, _, _, _, _, _, _, _, _, _, _, _, _, _, _, _, _, _, _, _, _, _, _, _, _, _, _, _, _, _, _, _], []⟩) rfl rfl rfl rfl ?_
              refine EndsOps.nil ?_
              refine Ends.ret ?_
              exact ⟨rfl, rfl, hO10, by
                show Value.bool false = .bool (decide (Right l n))
                exact congrArg Value.bool (decide_eq_false fun hR => by have := hR.at he7 he16 (by omega); simp only [Behind] at *; omega).symm⟩
            · skip
              refine D.op (v := .bool false) (fr1 := ⟨[_, _, _, _, _, _, _, _, _, _, _, _, _, _, _, _, _, _, _, _, _, _, _, _, _, _, _, _, _, _, _, _, _, _, _, _, _, _, _, _, _, _, _, _, _, _, _, _, .bool false, _, _], []⟩) rfl (p_bin (eqF h18)) rfl rfl rfl ?_
              refine D.op (v := .bool false) (fr1 := ⟨[_, _, _, _, _, _, _, _, _, _, _, _, _, _, _, _, _, _, _, _, _, _, _, _, _, _, _, _, _, _, _, _, _, _, _, _, _, _, _, _, _, _, _, _, _, _, _, _, _, .bool false, _], []⟩) rfl rfl rfl rfl rfl ?_
              refine D.op (v := .bool false) (fr1 := ⟨[_, _, _, _, _, _, _, _, _, _, _, _, _, _, _, _, _, _, _, _, _, _, _, _, _, _, _, _, _, _, _, _, _, _, _, _, _, _, _, _, _, _, _, _, _, _, _, _, _, _, .bool false], []⟩) rfl rfl rfl rfl rfl ?_
              refine D.nil ?_
              refine Ends.condF rfl ?_
              refine Ends.skip ?_
              refine Ends.region ?_
              refine W.op (v := .int .i64 ((i : Nat) : Int)) (fr1 := ⟨[_, _, _, _, _, _, _, _, _, _, _, _, .int .i64 ((i : Nat) : Int), _, _, _, _, _, _, _, _, _, _, _, _, _, _, _, _, _, _, _, _, _, _, _, _, _, _, _, _, _, _, _, _, _, _, _, _, _, _], []⟩) rfl rfl rfl rfl ?_
              refine W.op (v := .int .i64 ((i + 1 : Nat) : Int)) (fr1 := ⟨[_, _, _, _, _, _, _, _, _, _, _, _, _, .int .i64 ((i + 1 : Nat) : Int), _, _, _, _, _, _, _, _, _, _, _, _, _, _, _, _, _, _, _, _, _, _, _, _, _, _, _, _, _, _, _, _, _, _, _, _, _], []⟩) rfl (p_bin (addI (by omega) (by omega) (by omega))) rfl rfl ?_
              refine W.op (v := .int .i64 ((i + 1 : Nat) : Int)) (fr1 := ⟨[_, _, _, _, _, .int .i64 ((i + 1 : Nat) : Int), _, _, _, _, _, _, _, _, _, _, _, _, _, _, _, _, _, _, _, _, _, _, _, _, _, _, _, _, _, _, _, _, _, _, _, _, _, _, _, _, _, _, _, _, _], []⟩) rfl rfl rfl rfl ?_
              refine EndsOps.nil ?_
              exact ⟨_, (by omega), i + 1, _, _, _, _, _, _, _, _, _, _, _, _, _, _, _, _, _, _, _, _, _, _, _, _, _, _, _, _, _, _, _, _, _, _, _, _, _, _, _, _, _, _, _, _, rfl, hO10, rfl, by omega, Ok.step hok he7 h8 he16 (by omega) (by have := Ok.at hok he16 (by omega); simp only [Behind, Within] at *; omega)⟩
        · skip
          refine D.op (v := .bool false) (fr1 := ⟨[_, _, _, _, _, _, _, _, _, _, _, _, _, _, _, _, _, _, _, _, _, _, .bool false, _, _, _, _, _, _, _, _, _, _, _, _, _, _, _, _, _, _, _, _, _, _, _, _, _, _, _, _], []⟩) rfl (p_bin (gtF h12)) rfl rfl rfl ?_
          refine D.op (v := .bool false) (fr1 := ⟨[_, _, _, _, _, _, _, _, _, _, _, _, _, _, _, _, _, _, _, _, _, _, _, .bool false, _, _, _, _, _, _, _, _, _, _, _, _, _, _, _, _, _, _, _, _, _, _, _, _, _, _, _], []⟩) rfl rfl rfl rfl rfl ?_
          refine D.skip (fr1 := ⟨[_, _, _, _, _, _, _, _, _, _, _, _, _, _, _, _, _, _, _, _, _, _, _, _, undef, _, _, _, _, _, _, _, _, _, _, _, _, _, _, _, _, _, _, _, _, _, _, _, _, _, _], []⟩) rfl rfl ?_
          refine D.skip (fr1 := ⟨[_, _, _, _, _, _, _, _, _, _, _, _, _, _, _, _, _, _, _, _, _, _, _, _, _, undef, _, _, _, _, _, _, _, _, _, _, _, _, _, _, _, _, _, _, _, _, _, _, _, _, _], []⟩) rfl rfl ?_
          refine D.skip (fr1 := ⟨[_, _, _, _, _, _, _, _, _, _, _, _, _, _, _, _, _, _, _, _, _, _, _, _, _, _, undef, _, _, _, _, _, _, _, _, _, _, _, _, _, _, _, _, _, _, _, _, _, _, _, _], []⟩) rfl rfl ?_
          refine D.skip (fr1 := ⟨[_, _, _, _, _, _, _, _, _, _, _, _, _, _, _, _, _, _, _, _, _, _, _, _, _, _, _, undef, _, _, _, _, _, _, _, _, _, _, _, _, _, _, _, _, _, _, _, _, _, _, _], []⟩) rfl rfl ?_
          refine D.skip (fr1 := ⟨[_, _, _, _, _, _, _, _, _, _, _, _, _, _, _, _, _, _, _, _, _, _, _, _, _, _, _, _, undef, _, _, _, _, _, _, _, _, _, _, _, _, _, _, _, _, _, _, _, _, _, _], []⟩) rfl rfl ?_
          refine D.skip (fr1 := ⟨[_, _, _, _, _, _, _, _, _, _, _, _, _, _, _, _, _, _, _, _, _, _, _, _, _, _, _, _, _, undef, _, _, _, _, _, _, _, _, _, _, _, _, _, _, _, _, _, _, _, _, _], []⟩) rfl rfl ?_
          refine D.skip (fr1 := ⟨[_, _, _, _, _, _, _, _, _, _, _, _, _, _, _, _, _, _, _, _, _, _, _, _, _, _, _, _, _, _, undef, _, _, _, _, _, _, _, _, _, _, _, _, _, _, _, _, _, _, _, _], []⟩) rfl rfl ?_
          refine D.skip (fr1 := ⟨[_, _, _, _, _, _, _, _, _, _, _, _, _, _, _, _, _, _, _, _, _, _, _, _, _, _, _, _, _, _, _, undef, _, _, _, _, _, _, _, _, _, _, _, _, _, _, _, _, _, _, _], []⟩) rfl rfl ?_
          refine D.skip (fr1 := ⟨[_, _, _, _, _, _, _, _, _, _, _, _, _, _, _, _, _, _, _, _, _, _, _, _, _, _, _, _, _, _, _, _, undef, _, _, _, _, _, _, _, _, _, _, _, _, _, _, _, _, _, _], []⟩) rfl rfl ?_
          refine D.skip (fr1 := ⟨[_, _, _, _, _, _, _, _, _, _, _, _, _, _, _, _, _, _, _, _, _, _, _, _, _, _, _, _, _, _, _, _, _, undef, _, _, _, _, _, _, _, _, _, _, _, _, _, _, _, _, _], []⟩) rfl rfl ?_
          refine D.skip (fr1 := ⟨[_, _, _, _, _, _, _, _, _, _, _, _, _, _, _, _, _, _, _, _, _, _, _, _, _, _, _, _, _, _, _, _, _, _, undef, _, _, _, _, _, _, _, _, _, _, _, _, _, _, _, _], []⟩) rfl rfl ?_
          refine D.skip (fr1 := ⟨[_, _, _, _, _, _, _, _, _, _, _, _, _, _, _, _, _, _, _, _, _, _, _, _, _, _, _, _, _, _, _, _, _, _, _, undef, _, _, _, _, _, _, _, _, _, _, _, _, _, _, _], []⟩) rfl rfl ?_
          refine D.skip (fr1 := ⟨[_, _, _, _, _, _, _, _, _, _, _, _, _, _, _, _, _, _, _, _, _, _, _, _, _, _, _, _, _, _, _, _, _, _, _, _, undef, _, _, _, _, _, _, _, _, _, _, _, _, _, _], []⟩) rfl rfl ?_
          refine D.skip (fr1 := ⟨[_, _, _, _, _, _, _, _, _, _, _, _, _, _, _, _, _, _, _, _, _, _, _, _, _, _, _, _, _, _, _, _, _, _, _, _, _, undef, _, _, _, _, _, _, _, _, _, _, _, _, _], []⟩) rfl rfl ?_
          refine D.skip (fr1 := ⟨[_, _, _, _, _, _, _, _, _, _, _, _, _, _, _, _, _, _, _, _, _, _, _, _, _, _, _, _, _, _, _, _, _, _, _, _, _, _, undef, _, _, _, _, _, _, _, _, _, _, _, _], []⟩) rfl rfl ?_
          refine D.skip (fr1 := ⟨[_, _, _, _, _, _, _, _, _, _, _, _, _, _, _, _, _, _, _, _, _, _, _, _, _, _, _, _, _, _, _, _, _, _, _, _, _, _, _, undef, _, _, _, _, _, _, _, _, _, _, _], []⟩) rfl rfl ?_
          refine D.skip (fr1 := ⟨[_, _, _, _, _, _, _, _, _, _, _, _, _, _, _, _, _, _, _, _, _, _, _, _, _, _, _, _, _, _, _, _, _, _, _, _, _, _, _, _, undef, _, _, _, _, _, _, _, _, _, _], []⟩) rfl rfl ?_
          refine D.skip (fr1 := ⟨[_, _, _, _, _, _, _, _, _, _, _, _, _, _, _, _, _, _, _, _, _, _, _, _, _, _, _, _, _, _, _, _, _, _, _, _, _, _, _, _, _, undef, _, _, _, _, _, _, _, _, _], []⟩) rfl rfl ?_
          refine D.skip (fr1 := ⟨[_, _, _, _, _, _, _, _, _, _, _, _, _, _, _, _, _, _, _, _, _, _, _, _, _, _, _, _, _, _, _, _, _, _, _, _, _, _, _, _, _, _, undef, _, _, _, _, _, _, _, _], []⟩) rfl rfl ?_
          refine D.skip (fr1 := ⟨[_, _, _, _, _, _, _, _, _, _, _, _, _, _, _, _, _, _, _, _, _, _, _, _, _, _, _, _, _, _, _, _, _, _, _, _, _, _, _, _, _, _, _, undef, _, _, _, _, _, _, _], []⟩) rfl rfl ?_
          refine D.skip (fr1 := ⟨[_, _, _, _, _, _, _, _, _, _, _, _, _, _, _, _, _, _, _, _, _, _, _, _, _, _, _, _, _, _, _, _, _, _, _, _, _, _, _, _, _, _, _, _, undef, _, _, _, _, _, _], []⟩) rfl rfl ?_
          refine D.skip (fr1 := ⟨[_, _, _, _, _, _, _, _, _, _, _, _, _, _, _, _, _, _, _, _, _, _, _, _, _, _, _, _, _, _, _, _, _, _, _, _, _, _, _, _, _, _, _, _, _, undef, _, _, _, _, _], []⟩) rfl rfl ?_
          refine D.skip (fr1 := ⟨[_, _, _, _, _, _, _, _, _, _, _, _, _, _, _, _, _, _, _, _, _, _, _, _, _, _, _, _, _, _, _, _, _, _, _, _, _, _, _, _, _, _, _, _, _, _, undef, _, _, _, _], []⟩) rfl rfl ?_
          refine D.skip (fr1 := ⟨[_, _, _, _, _, _, _, _, _, _, _, _, _, _, _, _, _, _, _, _, _, _, _, _, _, _, _, _, _, _, _, _, _, _, _, _, _, _, _, _, _, _, _, _, _, _, _, undef, _, _, _], []⟩) rfl rfl ?_
          refine D.skip (fr1 := ⟨[_, _, _, _, _, _, _, _, _, _, _, _, _, _, _, _, _, _, _, _, _, _, _, _, _, _, _, _, _, _, _, _, _, _, _, _, _, _, _, _, _, _, _, _, _, _, _, _, undef, _, _], []⟩) rfl rfl ?_
          refine D.skip (fr1 := ⟨[_, _, _, _, _, _, _, _, _, _, _, _, _, _, _, _, _, _, _, _, _, _, _, _, _, _, _, _, _, _, _, _, _, _, _, _, _, _, _, _, _, _, _, _, _, _, _, _, _, undef, _], []⟩) rfl rfl ?_
          refine D.op (v := .bool false) (fr1 := ⟨[_, _, _, _, _, _, _, _, _, _, _, _, _, _, _, _, _, _, _, _, _, _, _, _, _, _, _, _, _, _, _, _, _, _, _, _, _, _, _, _, _, _, _, _, _, _, _, _, _, _, .bool false], []⟩) rfl rfl rfl rfl rfl ?_
          refine D.nil ?_
          refine Ends.condF rfl ?_
          refine Ends.skip ?_
          refine Ends.region ?_
          refine W.op (v := .int .i64 ((i : Nat) : Int)) (fr1 := ⟨[_, _, _, _, _, _, _, _, _, _, _, _, .int .i64 ((i : Nat) : Int), _, _, _, _, _, _, _, _, _, _, _, _, _, _, _, _, _, _, _, _, _, _, _, _, _, _, _, _, _, _, _, _, _, _, _, _, _, _], []⟩) rfl rfl rfl rfl ?_
          refine W.op (v := .int .i64 ((i + 1 : Nat) : Int)) (fr1 := ⟨[_, _, _, _, _, _, _, _, _, _, _, _, _, .int .i64 ((i + 1 : Nat) : Int), _, _, _, _, _, _, _, _, _, _, _, _, _, _, _, _, _, _, _, _, _, _, _, _, _, _, _, _, _, _, _, _, _, _, _, _, _], []⟩) rfl (p_bin (addI (by omega) (by omega) (by omega))) rfl rfl ?_
          refine W.op (v := .int .i64 ((i + 1 : Nat) : Int)) (fr1 := ⟨[_, _, _, _, _, .int .i64 ((i + 1 : Nat) : Int), _, _, _, _, _, _, _, _, _, _, _, _, _, _, _, _, _, _, _, _, _, _, _, _, _, _, _, _, _, _, _, _, _, _, _, _, _, _, _, _, _, _, _, _, _], []⟩) rfl rfl rfl rfl ?_
          refine EndsOps.nil ?_
          exact ⟨_, (by omega), i + 1, _, _, _, _, _, _, _, _, _, _, _, _, _, _, _, _, _, _, _, _, _, _, _, _, _, _, _, _, _, _, _, _, _, _, _, _, _, _, _, _, _, _, _, _, rfl, hO10, rfl, by omega, Ok.step0 hok he7 h8 (by omega)⟩
      · skip
        refine W.call (ar := [.agg ⟨[.int .i64 e6.lo, .int .i64 e6.hi, .string e6.tx]⟩, .int .i64 n]) (X := .bool false) (fr1 := ⟨[_, _, _, _, _, _, _, _, _, _, _, _, _, _, _, _, _, _, _, .bool false, _, _, _, _, _, _, _, _, _, _, _, _, _, _, _, _, _, _, _, _, _, _, _, _, _, _, _, _, _, _, _], []⟩) hO3 rfl rfl rfl rfl ((c67 e6 n _).mono fun v _ _ h => h.trans (congrArg Value.bool (decide_eq_false h8))) rfl ?_
        intro s19 hO20 hS21
        refine W.op (v := .bool true) (fr1 := ⟨[_, _, _, _, _, _, _, _, _, _, _, _, _, _, _, _, _, _, _, _, .bool true, _, _, _, _, _, _, _, _, _, _, _, _, _, _, _, _, _, _, _, _, _, _, _, _, _, _, _, _, _, _], []⟩) rfl rfl rfl rfl ?_
        refine EndsOps.nil ?_
        refine Ends.condT rfl ?_
        refine Ends.seq ?_
        refine Ends.region ?_
        refine W.op (v := .bool false) (fr1 := ⟨[_, _, _, _, .bool false, _, _, _, _, _, _, _, _, _, _, _, _, _, _, _, _, _, _, _, _, _, _, _, _, _, _, _, _, _, _, _, _, _, _, _, _, _, _, _, _, _, _, _, _, _, _], []⟩) rfl rfl rfl rfl ?_
        refine EndsOps.nil ?_
        refine Ends.ret ?_
        exact ⟨rfl, rfl, hO20, by
          show Value.bool false = .bool (decide (Right l n))
          exact congrArg Value.bool (decide_eq_false fun hR => h8 (hR.2 i (by omega) _ he7).1).symm⟩
    · skip
      refine W.op (v := .bool false) (fr1 := ⟨[_, _, _, _, _, _, _, _, _, _, _, .bool false, _, _, _, _, _, _, _, _, _, _, _, _, _, _, _, _, _, _, _, _, _, _, _, _, _, _, _, _, _, _, _, _, _, _, _, _, _, _, _], []⟩) rfl (p_bin (ltF h5)) rfl rfl ?_
      refine EndsOps.nil ?_
      refine Ends.condF rfl ?_
      refine Ends.exit ?_
      refine W.outT rfl ?_
      refine Ends.seq ?_
      refine Ends.region ?_
      refine W.op (v := .bool true) (fr1 := ⟨[_, _, _, _, .bool true, _, _, _, _, _, _, _, _, _, _, _, _, _, _, _, _, _, _, _, _, _, _, _, _, _, _, _, _, _, _, _, _, _, _, _, _, _, _, _, _, _, _, _, _, _, _], []⟩) rfl rfl rfl rfl ?_
      refine EndsOps.nil ?_
      refine Ends.ret ?_
      exact ⟨rfl, rfl, hO3, by
        show Value.bool true = .bool (decide (Right l n))
        exact congrArg Value.bool (decide_eq_true ⟨by omega, fun k hk => hok k (by omega)⟩).symm⟩

theorem c22n (s : St) : EndsPure R1.T 22 [.nilIface] s (fun v _ _ => v = .int .i64 0) := by
  refine EndsPure.of (rs := [2]) (fr0 := ⟨[.nilIface, undef, undef, undef, undef, undef, undef, undef, undef, undef, undef, undef, undef, undef, undef, undef, undef, undef], []⟩) (by kernel_rfl : R1.T.fn 22 = some ⟨18, (Try.f22.body).getD .skip, [.tmp 2]⟩) rfl ?_
  have hO0 := Own.refl s
  simp only [Try.f22, Option.getD]
  refine Ends.seq ?_
  refine Ends.region ?_
  refine W.op (v := .int .i64 0) (fr1 := ⟨[_, _, .int .i64 0, _, _, _, _, _, _, _, _, _, _, _, _, _, _, _], []⟩) rfl rfl rfl rfl ?_
  refine EndsOps.nil ?_
  refine Ends.seq ?_
  refine Ends.seq ?_
  refine Ends.region ?_
  refine W.op (v := .nilIface) (fr1 := ⟨[_, _, _, _, _, .nilIface, _, _, _, _, _, _, _, _, _, _, _, _], []⟩) rfl rfl rfl rfl ?_
  refine W.op (v := .bool true) (fr1 := ⟨[_, _, _, _, _, _, .bool true, _, _, _, _, _, _, _, _, _, _, _], []⟩) rfl rfl rfl rfl ?_
  refine EndsOps.nil ?_
  refine Ends.condT rfl ?_
  refine Ends.seq ?_
  refine Ends.region ?_
  refine W.op (v := .int .i64 0) (fr1 := ⟨[_, _, .int .i64 0, _, _, _, _, _, _, _, _, _, _, _, _, _, _, _], []⟩) rfl rfl rfl rfl ?_
  refine EndsOps.nil ?_
  refine Ends.ret ?_
  exact ⟨rfl, rfl, hO0, by
    show Value.int .i64 0 = .int .i64 0
    rfl⟩

theorem c22 (c : Int) (h0 : ¬ c = 0) (s : St) : EndsPure R1.T 22 [.iface 37 (.int .i64 c)] s (fun v _ _ => v = .int .i64 c) := by
  refine EndsPure.of (rs := [2]) (fr0 := ⟨[.iface 37 (.int .i64 c), undef, undef, undef, undef, undef, undef, undef, undef, undef, undef, undef, undef, undef, undef, undef, undef, undef], []⟩) (by kernel_rfl : R1.T.fn 22 = some ⟨18, (Try.f22.body).getD .skip, [.tmp 2]⟩) rfl ?_
  have hO0 := Own.refl s
  simp only [Try.f22, Option.getD]
  refine Ends.seq ?_
  refine Ends.region ?_
  refine W.op (v := .int .i64 0) (fr1 := ⟨[_, _, .int .i64 0, _, _, _, _, _, _, _, _, _, _, _, _, _, _, _], []⟩) rfl rfl rfl rfl ?_
  refine EndsOps.nil ?_
  refine Ends.seq ?_
  refine Ends.seq ?_
  refine Ends.region ?_
  refine W.op (v := .iface 37 (.int .i64 c)) (fr1 := ⟨[_, _, _, _, _, .iface 37 (.int .i64 c), _, _, _, _, _, _, _, _, _, _, _, _], []⟩) rfl rfl rfl rfl ?_
  refine W.op (v := .bool false) (fr1 := ⟨[_, _, _, _, _, _, .bool false, _, _, _, _, _, _, _, _, _, _, _], []⟩) rfl rfl rfl rfl ?_
  refine EndsOps.nil ?_
  refine Ends.condF rfl ?_
  refine Ends.skip ?_
  refine Ends.seq ?_
  refine Ends.seq ?_
  refine Ends.region ?_
  refine W.op (v := .iface 37 (.int .i64 c)) (fr1 := ⟨[_, _, _, _, _, _, _, _, .iface 37 (.int .i64 c), _, _, _, _, _, _, _, _, _], []⟩) rfl rfl rfl rfl ?_
  refine W.op (v := .tuple ⟨[.int .i64 c, .bool true]⟩) (fr1 := ⟨[_, _, _, _, _, _, _, _, _, .tuple ⟨[.int .i64 c, .bool true]⟩, _, _, _, _, _, _, _, _], []⟩) rfl rfl rfl rfl ?_
  refine W.op (v := .tuple ⟨[.int .i64 c, .bool true]⟩) (fr1 := ⟨[_, _, _, _, _, _, _, .tuple ⟨[.int .i64 c, .bool true]⟩, _, _, _, _, _, _, _, _, _, _], []⟩) rfl rfl rfl rfl ?_
  refine W.op (v := .int .i64 c) (fr1 := ⟨[_, _, _, _, _, _, _, _, _, _, .int .i64 c, _, _, _, _, _, _, _], []⟩) rfl rfl rfl rfl ?_
  refine W.op (v := .bool true) (fr1 := ⟨[_, _, _, _, _, _, _, _, _, _, _, .bool true, _, _, _, _, _, _], []⟩) rfl rfl rfl rfl ?_
  refine W.op (v := .int .i64 c) (fr1 := ⟨[_, _, _, .int .i64 c, _, _, _, _, _, _, _, _, _, _, _, _, _, _], []⟩) rfl rfl rfl rfl ?_
  refine W.op (v := .bool true) (fr1 := ⟨[_, _, _, _, .bool true, _, _, _, _, _, _, _, _, _, _, _, _, _], []⟩) rfl rfl rfl rfl ?_
  refine EndsOps.nil ?_
  refine Ends.seq ?_
  refine Ends.region ?_
  refine W.op (v := .bool true) (fr1 := ⟨[_, _, _, _, _, _, _, _, _, _, _, _, .bool true, _, _, _, _, _], []⟩) rfl rfl rfl rfl ?_
  refine W.op (v := .bool true) (fr1 := ⟨[_, _, _, _, _, _, _, _, _, _, _, _, _, .bool true, _, _, _, _], []⟩) rfl rfl rfl rfl ?_
  refine W.op (v := .int .i64 c) (fr1 := ⟨[_, _, _, _, _, _, _, _, _, _, _, _, _, _, .int .i64 c, _, _, _], []⟩) rfl rfl rfl rfl ?_
  refine W.op (v := .bool true) (fr1 := ⟨[_, _, _, _, _, _, _, _, _, _, _, _, _, _, _, .bool true, _, _], []⟩) rfl (p_bin (neT h0)) rfl rfl ?_
  refine W.op (v := .bool true) (fr1 := ⟨[_, _, _, _, _, _, _, _, _, _, _, _, _, _, _, _, .bool true, _], []⟩) rfl rfl rfl rfl ?_
  refine EndsOps.nil ?_
  refine Ends.condT rfl ?_
  refine Ends.seq ?_
  refine Ends.region ?_
  refine W.op (v := .int .i64 c) (fr1 := ⟨[_, _, _, _, _, _, _, _, _, _, _, _, _, _, _, _, _, .int .i64 c], []⟩) rfl rfl rfl rfl ?_
  refine W.op (v := .int .i64 c) (fr1 := ⟨[_, _, .int .i64 c, _, _, _, _, _, _, _, _, _, _, _, _, _, _, _], []⟩) rfl rfl rfl rfl ?_
  refine EndsOps.nil ?_
  refine Ends.ret ?_
  exact ⟨rfl, rfl, hO0, by
    show Value.int .i64 c = .int .i64 c
    rfl⟩

theorem c24 (c w : Int) (h0 : ¬ c = 0) (s : St) : EndsPure R1.T 24 [.iface 37 (.int .i64 c), .int .i64 w] s (fun v _ _ => v = .bool (decide (c = w))) := by
  refine EndsPure.of (rs := [4]) (fr0 := ⟨[.iface 37 (.int .i64 c), .int .i64 w, undef, undef, undef, undef, undef, undef, undef], []⟩) (by kernel_rfl : R1.T.fn 24 = some ⟨9, (Try.f24.body).getD .skip, [.tmp 4]⟩) rfl ?_
  have hO0 := Own.refl s
  simp only [Try.f24, Option.getD]
  refine Ends.seq ?_
  refine Ends.region ?_
  refine W.op (v := .bool false) (fr1 := ⟨[_, _, _, _, .bool false, _, _, _, _], []⟩) rfl rfl rfl rfl ?_
  refine EndsOps.nil ?_
  refine Ends.seq ?_
  refine Ends.region ?_
  refine W.op (v := .iface 37 (.int .i64 c)) (fr1 := ⟨[_, _, _, _, _, .iface 37 (.int .i64 c), _, _, _], []⟩) rfl rfl rfl rfl ?_
  refine W.call (ar := [.iface 37 (.int .i64 c)]) (X := .int .i64 c) (fr1 := ⟨[_, _, _, _, _, _, .int .i64 c, _, _], []⟩) hO0 rfl rfl rfl rfl (c22 _ h0 _) rfl ?_
  intro s1 hO2 hS3
  refine W.op (v := .int .i64 w) (fr1 := ⟨[_, _, _, _, _, _, _, .int .i64 w, _], []⟩) rfl rfl rfl rfl ?_
  by_cases h4 : c = w
  · skip
    refine W.op (v := .bool true) (fr1 := ⟨[_, _, _, _, _, _, _, _, .bool true], []⟩) rfl (p_bin (eqT h4)) rfl rfl ?_
    refine W.op (v := .bool true) (fr1 := ⟨[_, _, _, _, .bool true, _, _, _, _], []⟩) rfl rfl rfl rfl ?_
    refine EndsOps.nil ?_
    refine Ends.ret ?_
    exact ⟨rfl, rfl, hO2, by
      show Value.bool true = .bool (decide (c = w))
      simp only [decide_true, decide_false, *]⟩
  · skip
    refine W.op (v := .bool false) (fr1 := ⟨[_, _, _, _, _, _, _, _, .bool false], []⟩) rfl (p_bin (eqF h4)) rfl rfl ?_
    refine W.op (v := .bool false) (fr1 := ⟨[_, _, _, _, .bool false, _, _, _, _], []⟩) rfl rfl rfl rfl ?_
    refine EndsOps.nil ?_
    refine Ends.ret ?_
    exact ⟨rfl, rfl, hO2, by
      show Value.bool false = .bool (decide (c = w))
      simp only [decide_true, decide_false, *]⟩

theorem c24n (w : Int) (s : St) : EndsPure R1.T 24 [.nilIface, .int .i64 w] s (fun v _ _ => v = .bool (decide ((0 : Int) = w))) := by
  refine EndsPure.of (rs := [4]) (fr0 := ⟨[.nilIface, .int .i64 w, undef, undef, undef, undef, undef, undef, undef], []⟩) (by kernel_rfl : R1.T.fn 24 = some ⟨9, (Try.f24.body).getD .skip, [.tmp 4]⟩) rfl ?_
  have hO0 := Own.refl s
  simp only [Try.f24, Option.getD]
  refine Ends.seq ?_
  refine Ends.region ?_
  refine W.op (v := .bool false) (fr1 := ⟨[_, _, _, _, .bool false, _, _, _, _], []⟩) rfl rfl rfl rfl ?_
  refine EndsOps.nil ?_
  refine Ends.seq ?_
  refine Ends.region ?_
  refine W.op (v := .nilIface) (fr1 := ⟨[_, _, _, _, _, .nilIface, _, _, _], []⟩) rfl rfl rfl rfl ?_
  refine W.call (ar := [.nilIface]) (X := .int .i64 (0 : Int)) (fr1 := ⟨[_, _, _, _, _, _, .int .i64 (0 : Int), _, _], []⟩) hO0 rfl rfl rfl rfl (c22n _) rfl ?_
  intro s1 hO2 hS3
  refine W.op (v := .int .i64 w) (fr1 := ⟨[_, _, _, _, _, _, _, .int .i64 w, _], []⟩) rfl rfl rfl rfl ?_
  by_cases h4 : (0 : Int) = w
  · skip
    refine W.op (v := .bool true) (fr1 := ⟨[_, _, _, _, _, _, _, _, .bool true], []⟩) rfl (p_bin (eqT h4)) rfl rfl ?_
    refine W.op (v := .bool true) (fr1 := ⟨[_, _, _, _, .bool true, _, _, _, _], []⟩) rfl rfl rfl rfl ?_
    refine EndsOps.nil ?_
    refine Ends.ret ?_
    exact ⟨rfl, rfl, hO2, by
      show Value.bool true = .bool (decide ((0 : Int) = w))
      simp only [decide_true, decide_false, *]⟩
  · skip
    refine W.op (v := .bool false) (fr1 := ⟨[_, _, _, _, _, _, _, _, .bool false], []⟩) rfl (p_bin (eqF h4)) rfl rfl ?_
    refine W.op (v := .bool false) (fr1 := ⟨[_, _, _, _, .bool false, _, _, _, _], []⟩) rfl rfl rfl rfl ?_
    refine EndsOps.nil ?_
    refine Ends.ret ?_
    exact ⟨rfl, rfl, hO2, by
      show Value.bool false = .bool (decide ((0 : Int) = w))
      simp only [decide_true, decide_false, *]⟩

theorem c28 (x : ByteArray) (hx : (B x).length ≤ 140737488351232) (al : Option Addr) (l : List Ed) (cl Nl ol : Nat) (vl : List Value) (yl zl : Nat) (K : ∀ e ∈ l, e.Ok) (s : St) (Hl : Sl Ed.cells 3 s.t s.next al l Nl ol vl yl zl)  : EndsPure R1.T 28 [.string x, .slice al l.length cl] s (fun v _ _ => v = .bool (decide (Large (B x).length l))) := by
  refine EndsPure.of (rs := [4]) (fr0 := ⟨[.string x, .slice al l.length cl, undef, undef, undef, undef, undef, undef, undef, undef, undef, undef, undef, undef, undef, undef, undef, undef, undef, undef, undef, undef, undef, undef, undef, undef, undef, undef, undef, undef, undef], []⟩) (by kernel_rfl : R1.T.fn 28 = some ⟨31, (Try.f28.body).getD .skip, [.tmp 4]⟩) rfl ?_
  have hO0 := Own.refl s
  have Ml := Hl.small
  simp only [Try.f28, Option.getD]
  refine Ends.seq ?_
  refine Ends.region ?_
  refine W.op (v := .bool false) (fr1 := ⟨[_, _, _, _, .bool false, _, _, _, _, _, _, _, _, _, _, _, _, _, _, _, _, _, _, _, _, _, _, _, _, _, _], []⟩) rfl rfl rfl rfl ?_
  refine EndsOps.nil ?_
  refine Ends.seq ?_
  refine Ends.region ?_
  refine W.op (v := .string x) (fr1 := ⟨[_, _, _, _, _, _, _, _, .string x, _, _, _, _, _, _, _, _, _, _, _, _, _, _, _, _, _, _, _, _, _, _], []⟩) rfl rfl rfl rfl ?_
  refine W.op (v := .int .i64 (((B x).length : Nat) : Int)) (fr1 := ⟨[_, _, _, _, _, _, _, _, _, .int .i64 (((B x).length : Nat) : Int), _, _, _, _, _, _, _, _, _, _, _, _, _, _, _, _, _, _, _, _, _], []⟩) rfl rfl rfl rfl ?_
  refine W.op (v := .int .i64 (((B x).length : Nat) : Int)) (fr1 := ⟨[_, _, _, _, _, .int .i64 (((B x).length : Nat) : Int), _, _, _, _, _, _, _, _, _, _, _, _, _, _, _, _, _, _, _, _, _, _, _, _, _], []⟩) rfl rfl rfl rfl ?_
  refine EndsOps.nil ?_
  refine Ends.seq ?_
  refine Ends.seq ?_
  refine Ends.region ?_
  refine W.op (v := .slice al l.length cl) (fr1 := ⟨[_, _, _, _, _, _, _, _, _, _, .slice al l.length cl, _, _, _, _, _, _, _, _, _, _, _, _, _, _, _, _, _, _, _, _], []⟩) rfl rfl rfl rfl ?_
  refine W.op (v := .int .i64 ((l.length : Nat) : Int)) (fr1 := ⟨[_, _, _, _, _, _, _, _, _, _, _, .int .i64 ((l.length : Nat) : Int), _, _, _, _, _, _, _, _, _, _, _, _, _, _, _, _, _, _, _], []⟩) rfl rfl rfl rfl ?_
  refine W.op (v := .int .i64 0) (fr1 := ⟨[_, _, _, _, _, _, _, _, _, _, _, _, .int .i64 0, _, _, _, _, _, _, _, _, _, _, _, _, _, _, _, _, _, _], []⟩) rfl rfl rfl rfl ?_
  refine EndsOps.nil ?_
  refine W.block ?_
  refine Ends.loopInv (fun d fr s1 => ∃ (i : Nat) (j4 j6 j7 j13 j14 j15 j16 j17 j18 j19 j20 j21 j22 j23 j24 j25 j26 j27 j28 : Value), fr = ⟨[.string x, .slice al l.length cl, undef, undef, j4, .int .i64 (((B x).length + sumT (l.take i) : Nat) : Int), j6, j7, .string x, .int .i64 (((B x).length : Nat) : Int), .slice al l.length cl, .int .i64 ((l.length : Nat) : Int), .int .i64 ((i : Nat) : Int), j13, j14, j15, j16, j17, j18, j19, j20, j21, j22, j23, j24, j25, j26, j27, j28, undef, undef], []⟩ ∧ Own s s1 ∧ d = l.length - i ∧ (i ≤ l.length) ∧ (i ≤ 41) ∧ ((B x).length + sumT (l.take i) ≤ 140737488351232)) ?_ _ _ _ ⟨0, _, _, _, _, _, _, _, _, _, _, _, _, _, _, _, _, _, _, _, rfl, hO0, rfl, Nat.zero_le _, by omega, hx⟩
  rintro d _ s1 ⟨i, j4, j6, j7, j13, j14, j15, j16, j17, j18, j19, j20, j21, j22, j23, j24, j25, j26, j27, j28, rfl, hO2, hd3, hi, h41, hn⟩
  refine Ends.seq ?_
  refine Ends.region ?_
  by_cases h4 : ((i : Nat) : Int) < ((l.length : Nat) : Int)
  · skip
    refine W.op (v := .bool true) (fr1 := ⟨[_, _, _, _, _, _, _, _, _, _, _, _, _, .bool true, _, _, _, _, _, _, _, _, _, _, _, _, _, _, _, _, _], []⟩) rfl (p_bin (ltT h4)) rfl rfl ?_
    refine EndsOps.nil ?_
    refine Ends.seq ?_
    refine Ends.condT rfl ?_
    refine Ends.skip ?_
    refine Ends.seq ?_
    refine W.block ?_
    refine Ends.seq ?_
    refine Ends.region ?_
    refine W.op (v := .int .i64 ((i : Nat) : Int)) (fr1 := ⟨[_, _, _, _, _, _, _, _, _, _, _, _, _, _, .int .i64 ((i : Nat) : Int), _, _, _, _, _, _, _, _, _, _, _, _, _, _, _, _], []⟩) rfl rfl rfl rfl ?_
    obtain ⟨e5, he6⟩ := ex_at (l := l) (i := i) (by omega)
    refine W.op (v := .pointer (some ⟨Nl, ol + i * 3, none⟩)) (fr1 := ⟨[_, _, _, _, _, _, _, _, _, _, _, _, _, _, _, .pointer (some ⟨Nl, ol + i * 3, none⟩), _, _, _, _, _, _, _, _, _, _, _, _, _, _, _], []⟩) rfl (p_ix (Sl.ix Hl rfl rfl he6 _)) rfl rfl ?_
    refine W.op (v := .agg ⟨[.int .i64 e5.lo, .int .i64 e5.hi, .string e5.tx]⟩) (fr1 := ⟨[_, _, _, _, _, _, _, _, _, _, _, _, _, _, _, _, .agg ⟨[.int .i64 e5.lo, .int .i64 e5.hi, .string e5.tx]⟩, _, _, _, _, _, _, _, _, _, _, _, _, _, _], []⟩) rfl (p_loadA (Sl.row' (Hl.own hO2) he6) rfl rfl rfl rfl ((Hl.own hO2).get _ _ he6)) rfl rfl ?_
    obtain ⟨N7, hN8⟩ : ∃ N, N = s1.next := ⟨_, rfl⟩
    refine W.new (N := N7) (vs := [.int .i64 0, .int .i64 0, .string ByteArray.empty]) (fr1 := ⟨[_, _, _, _, _, _, _, .pointer (some ⟨N7, 0, none⟩), _, _, _, _, _, _, _, _, _, _, _, _, _, _, _, _, _, _, _, _, _, _, _], []⟩) hO2 hN8 rfl (p_alloc zero97 rfl) rfl rfl ?_
    intro s9 hO10 hS11 r12 hB13
    refine W.op (v := .int .i64 ((i : Nat) : Int)) (fr1 := ⟨[_, _, _, _, _, _, .int .i64 ((i : Nat) : Int), _, _, _, _, _, _, _, _, _, _, _, _, _, _, _, _, _, _, _, _, _, _, _, _], []⟩) rfl rfl rfl rfl ?_
    refine W.store2 (cs := [.int .i64 e5.lo, .int .i64 e5.hi, .string e5.tx]) (vs' := [.int .i64 e5.lo, .int .i64 e5.hi, .string e5.tx]) (fr1 := ⟨[_, _, _, _, _, _, _, _, _, _, _, _, _, _, _, _, _, _, _, _, _, _, _, _, _, _, _, _, _, _, _], []⟩) hO10 r12 hB13 rfl rfl rfl rfl (by kernel_rfl) (by simp) (by simp [END, oneCell]) rfl rfl ?_
    intro s14 hO15 hn16 hu17 r18 hX19
    refine EndsOps.nil ?_
    refine Ends.seq ?_
    refine Ends.region ?_
    refine W.op (v := .int .i64 (((B x).length + sumT (l.take i) : Nat) : Int)) (fr1 := ⟨[_, _, _, _, _, _, _, _, _, _, _, _, _, _, _, _, _, .int .i64 (((B x).length + sumT (l.take i) : Nat) : Int), _, _, _, _, _, _, _, _, _, _, _, _, _], []⟩) rfl rfl rfl rfl ?_
    refine W.op (v := .pointer (some ⟨N7, 2, none⟩)) (fr1 := ⟨[_, _, _, _, _, _, _, _, _, _, _, _, _, _, _, _, _, _, .pointer (some ⟨N7, 2, none⟩), _, _, _, _, _, _, _, _, _, _, _, _], []⟩) rfl rfl rfl rfl ?_
    refine W.op (v := .string e5.tx) (fr1 := ⟨[_, _, _, _, _, _, _, _, _, _, _, _, _, _, _, _, _, _, _, .string e5.tx, _, _, _, _, _, _, _, _, _, _, _], []⟩) rfl (p_load1 r18 rfl rfl rfl rfl) rfl rfl ?_
    refine W.op (v := .int .i64 (((B e5.tx).length : Nat) : Int)) (fr1 := ⟨[_, _, _, _, _, _, _, _, _, _, _, _, _, _, _, _, _, _, _, _, .int .i64 (((B e5.tx).length : Nat) : Int), _, _, _, _, _, _, _, _, _, _], []⟩) rfl rfl rfl rfl ?_
    have g := sumT_step he6
    have gK := (K _ (List.mem_of_getElem? he6)).tx
    refine W.op (v := .int .i64 (((B x).length + sumT (l.take (i + 1)) : Nat) : Int)) (fr1 := ⟨[_, _, _, _, _, _, _, _, _, _, _, _, _, _, _, _, _, _, _, _, _, .int .i64 (((B x).length + sumT (l.take (i + 1)) : Nat) : Int), _, _, _, _, _, _, _, _, _], []⟩) rfl (p_bin (addI (by omega) (by omega) (by omega))) rfl rfl ?_
    refine W.op (v := .int .i64 (((B x).length + sumT (l.take (i + 1)) : Nat) : Int)) (fr1 := ⟨[_, _, _, _, _, .int .i64 (((B x).length + sumT (l.take (i + 1)) : Nat) : Int), _, _, _, _, _, _, _, _, _, _, _, _, _, _, _, _, _, _, _, _, _, _, _, _, _], []⟩) rfl rfl rfl rfl ?_
    refine EndsOps.nil ?_
    refine Ends.seq ?_
    refine Ends.region ?_
    refine W.op (v := .int .i64 ((i : Nat) : Int)) (fr1 := ⟨[_, _, _, _, _, _, _, _, _, _, _, _, _, _, _, _, _, _, _, _, _, _, .int .i64 ((i : Nat) : Int), _, _, _, _, _, _, _, _], []⟩) rfl rfl rfl rfl ?_
    by_cases h20 : (40 : Int) < ((i : Nat) : Int)
    · skip
      refine W.op (v := .bool true) (fr1 := ⟨[_, _, _, _, _, _, _, _, _, _, _, _, _, _, _, _, _, _, _, _, _, _, _, .bool true, _, _, _, _, _, _, _], []⟩) rfl (p_bin (gtT h20)) rfl rfl ?_
      refine W.op (v := .bool true) (fr1 := ⟨[_, _, _, _, _, _, _, _, _, _, _, _, _, _, _, _, _, _, _, _, _, _, _, _, .bool true, _, _, _, _, _, _], []⟩) rfl rfl rfl rfl ?_
      refine W.skip (fr1 := ⟨[_, _, _, _, _, _, _, _, _, _, _, _, _, _, _, _, _, _, _, _, _, _, _, _, _, undef, _, _, _, _, _], []⟩) rfl rfl ?_
      refine W.skip (fr1 := ⟨[_, _, _, _, _, _, _, _, _, _, _, _, _, _, _, _, _, _, _, _, _, _, _, _, _, _, undef, _, _, _, _], []⟩) rfl rfl ?_
      refine W.op (v := .bool true) (fr1 := ⟨[_, _, _, _, _, _, _, _, _, _, _, _, _, _, _, _, _, _, _, _, _, _, _, _, _, _, _, .bool true, _, _, _], []⟩) rfl rfl rfl rfl ?_
      refine EndsOps.nil ?_
      refine Ends.condT rfl ?_
      refine Ends.seq ?_
      refine Ends.region ?_
      refine W.op (v := .bool true) (fr1 := ⟨[_, _, _, _, .bool true, _, _, _, _, _, _, _, _, _, _, _, _, _, _, _, _, _, _, _, _, _, _, _, _, _, _], []⟩) rfl rfl rfl rfl ?_
      refine EndsOps.nil ?_
      refine Ends.ret ?_
      exact ⟨rfl, rfl, hO15, by
        show Value.bool true = .bool (decide (Large (B x).length l))
        exact congrArg Value.bool (decide_eq_true (by have gl := sumT_le l (i + 1); have gt := sumT_all l; simp only [Large]; first | omega | (have ge : i = l.length := (by omega); subst ge; omega))).symm⟩
    · skip
      refine W.op (v := .bool false) (fr1 := ⟨[_, _, _, _, _, _, _, _, _, _, _, _, _, _, _, _, _, _, _, _, _, _, _, .bool false, _, _, _, _, _, _, _], []⟩) rfl (p_bin (gtF h20)) rfl rfl ?_
      refine W.op (v := .bool false) (fr1 := ⟨[_, _, _, _, _, _, _, _, _, _, _, _, _, _, _, _, _, _, _, _, _, _, _, _, .bool false, _, _, _, _, _, _], []⟩) rfl rfl rfl rfl ?_
      refine W.op (v := .int .i64 (((B x).length + sumT (l.take (i + 1)) : Nat) : Int)) (fr1 := ⟨[_, _, _, _, _, _, _, _, _, _, _, _, _, _, _, _, _, _, _, _, _, _, _, _, _, .int .i64 (((B x).length + sumT (l.take (i + 1)) : Nat) : Int), _, _, _, _, _], []⟩) rfl rfl rfl rfl ?_
      by_cases h21 : (70000 : Int) < (((B x).length + sumT (l.take (i + 1)) : Nat) : Int)
      · skip
        refine W.op (v := .bool true) (fr1 := ⟨[_, _, _, _, _, _, _, _, _, _, _, _, _, _, _, _, _, _, _, _, _, _, _, _, _, _, .bool true, _, _, _, _], []⟩) rfl (p_bin (gtT h21)) rfl rfl ?_
        refine W.op (v := .bool true) (fr1 := ⟨[_, _, _, _, _, _, _, _, _, _, _, _, _, _, _, _, _, _, _, _, _, _, _, _, _, _, _, .bool true, _, _, _], []⟩) rfl rfl rfl rfl ?_
        refine EndsOps.nil ?_
        refine Ends.condT rfl ?_
        refine Ends.seq ?_
        refine Ends.region ?_
        refine W.op (v := .bool true) (fr1 := ⟨[_, _, _, _, .bool true, _, _, _, _, _, _, _, _, _, _, _, _, _, _, _, _, _, _, _, _, _, _, _, _, _, _], []⟩) rfl rfl rfl rfl ?_
        refine EndsOps.nil ?_
        refine Ends.ret ?_
        exact ⟨rfl, rfl, hO15, by
          show Value.bool true = .bool (decide (Large (B x).length l))
          exact congrArg Value.bool (decide_eq_true (by have gl := sumT_le l (i + 1); have gt := sumT_all l; simp only [Large]; first | omega | (have ge : i = l.length := (by omega); subst ge; omega))).symm⟩
      · skip
        refine W.op (v := .bool false) (fr1 := ⟨[_, _, _, _, _, _, _, _, _, _, _, _, _, _, _, _, _, _, _, _, _, _, _, _, _, _, .bool false, _, _, _, _], []⟩) rfl (p_bin (gtF h21)) rfl rfl ?_
        refine W.op (v := .bool false) (fr1 := ⟨[_, _, _, _, _, _, _, _, _, _, _, _, _, _, _, _, _, _, _, _, _, _, _, _, _, _, _, .bool false, _, _, _], []⟩) rfl rfl rfl rfl ?_
        refine EndsOps.nil ?_
        refine Ends.condF rfl ?_
        refine Ends.skip ?_
        refine Ends.region ?_
        refine W.op (v := .int .i64 ((i + 1 : Nat) : Int)) (fr1 := ⟨[_, _, _, _, _, _, _, _, _, _, _, _, _, _, _, _, _, _, _, _, _, _, _, _, _, _, _, _, .int .i64 ((i + 1 : Nat) : Int), _, _], []⟩) rfl (p_bin (addI (by omega) (by omega) (by omega))) rfl rfl ?_
        refine W.op (v := .int .i64 ((i + 1 : Nat) : Int)) (fr1 := ⟨[_, _, _, _, _, _, _, _, _, _, _, _, .int .i64 ((i + 1 : Nat) : Int), _, _, _, _, _, _, _, _, _, _, _, _, _, _, _, _, _, _], []⟩) rfl rfl rfl rfl ?_
        refine EndsOps.nil ?_
        exact ⟨_, (by omega), i + 1, _, _, _, _, _, _, _, _, _, _, _, _, _, _, _, _, _, _, _, rfl, hO15, rfl, by omega, by omega, by omega⟩
  · skip
    refine W.op (v := .bool false) (fr1 := ⟨[_, _, _, _, _, _, _, _, _, _, _, _, _, .bool false, _, _, _, _, _, _, _, _, _, _, _, _, _, _, _, _, _], []⟩) rfl (p_bin (ltF h4)) rfl rfl ?_
    refine EndsOps.nil ?_
    refine Ends.seq ?_
    refine Ends.condF rfl ?_
    refine Ends.exit ?_
    refine W.outT rfl ?_
    refine Ends.seq ?_
    refine Ends.region ?_
    refine W.op (v := .int .i64 (((B x).length + sumT (l.take i) : Nat) : Int)) (fr1 := ⟨[_, _, _, _, _, _, _, _, _, _, _, _, _, _, _, _, _, _, _, _, _, _, _, _, _, _, _, _, _, .int .i64 (((B x).length + sumT (l.take i) : Nat) : Int), _], []⟩) rfl rfl rfl rfl ?_
    by_cases h22 : (70000 : Int) < (((B x).length + sumT (l.take i) : Nat) : Int)
    · skip
      refine W.op (v := .bool true) (fr1 := ⟨[_, _, _, _, _, _, _, _, _, _, _, _, _, _, _, _, _, _, _, _, _, _, _, _, _, _, _, _, _, _, .bool true], []⟩) rfl (p_bin (gtT h22)) rfl rfl ?_
      refine W.op (v := .bool true) (fr1 := ⟨[_, _, _, _, .bool true, _, _, _, _, _, _, _, _, _, _, _, _, _, _, _, _, _, _, _, _, _, _, _, _, _, _], []⟩) rfl rfl rfl rfl ?_
      refine EndsOps.nil ?_
      refine Ends.ret ?_
      exact ⟨rfl, rfl, hO2, by
        show Value.bool true = .bool (decide (Large (B x).length l))
        exact congrArg Value.bool (decide_eq_true (by have gl := sumT_le l (i + 1); have gt := sumT_all l; simp only [Large]; first | omega | (have ge : i = l.length := (by omega); subst ge; omega))).symm⟩
    · skip
      refine W.op (v := .bool false) (fr1 := ⟨[_, _, _, _, _, _, _, _, _, _, _, _, _, _, _, _, _, _, _, _, _, _, _, _, _, _, _, _, _, _, .bool false], []⟩) rfl (p_bin (gtF h22)) rfl rfl ?_
      refine W.op (v := .bool false) (fr1 := ⟨[_, _, _, _, .bool false, _, _, _, _, _, _, _, _, _, _, _, _, _, _, _, _, _, _, _, _, _, _, _, _, _, _], []⟩) rfl rfl rfl rfl ?_
      refine EndsOps.nil ?_
      refine Ends.ret ?_
      exact ⟨rfl, rfl, hO2, by
        show Value.bool false = .bool (decide (Large (B x).length l))
        exact congrArg Value.bool (decide_eq_false (by have gt := sumT_all l; have ge : i = l.length := (by omega); subst ge; simp only [Large]; omega)).symm⟩

theorem c72 (al : Option Addr) (l : List Ed) (cl Nl ol : Nat) (vl : List Value) (yl zl : Nat) (s : St) (Hl : Sl Ed.cells 3 s.t s.next al l Nl ol vl yl zl)  : EndsPure R1.T 72 [.slice al l.length cl] s (fun v _ _ => v = .int .i64 (W (growS l))) := by
  refine EndsPure.of (rs := [2]) (fr0 := ⟨[.slice al l.length cl, undef, undef, undef, undef, undef, undef, undef, undef, undef, undef, undef, undef, undef, undef, undef, undef, undef, undef, undef, undef, undef, undef, undef, undef], []⟩) (by kernel_rfl : R1.T.fn 72 = some ⟨25, (Try.f72.body).getD .skip, [.tmp 2]⟩) rfl ?_
  have hO0 := Own.refl s
  have Ml := Hl.small
  simp only [Try.f72, Option.getD]
  refine Ends.seq ?_
  refine Ends.region ?_
  refine W.op (v := .int .i64 0) (fr1 := ⟨[_, _, .int .i64 0, _, _, _, _, _, _, _, _, _, _, _, _, _, _, _, _, _, _, _, _, _, _], []⟩) rfl rfl rfl rfl ?_
  refine EndsOps.nil ?_
  refine Ends.seq ?_
  refine Ends.region ?_
  refine W.op (v := .int .i64 0) (fr1 := ⟨[_, _, _, .int .i64 0, _, _, _, _, _, _, _, _, _, _, _, _, _, _, _, _, _, _, _, _, _], []⟩) rfl rfl rfl rfl ?_
  refine EndsOps.nil ?_
  refine Ends.seq ?_
  refine Ends.seq ?_
  refine Ends.region ?_
  refine W.op (v := .slice al l.length cl) (fr1 := ⟨[_, _, _, _, _, _, .slice al l.length cl, _, _, _, _, _, _, _, _, _, _, _, _, _, _, _, _, _, _], []⟩) rfl rfl rfl rfl ?_
  refine W.op (v := .int .i64 ((l.length : Nat) : Int)) (fr1 := ⟨[_, _, _, _, _, _, _, .int .i64 ((l.length : Nat) : Int), _, _, _, _, _, _, _, _, _, _, _, _, _, _, _, _, _], []⟩) rfl rfl rfl rfl ?_
  refine W.op (v := .int .i64 0) (fr1 := ⟨[_, _, _, _, _, _, _, _, .int .i64 0, _, _, _, _, _, _, _, _, _, _, _, _, _, _, _, _], []⟩) rfl rfl rfl rfl ?_
  refine EndsOps.nil ?_
  refine W.block ?_
  refine Ends.loopInv (fun d fr s1 => ∃ (i : Nat) (j5 j9 j10 j11 j12 j13 j14 j15 j16 j17 j18 j19 j20 j21 j22 j23 : Value), fr = ⟨[.slice al l.length cl, undef, .int .i64 0, .int .i64 (W (growS (l.take i))), undef, j5, .slice al l.length cl, .int .i64 ((l.length : Nat) : Int), .int .i64 ((i : Nat) : Int), j9, j10, j11, j12, j13, j14, j15, j16, j17, j18, j19, j20, j21, j22, j23, undef], []⟩ ∧ Own s s1 ∧ d = l.length - i ∧ (i ≤ l.length)) ?_ _ _ _ ⟨0, _, _, _, _, _, _, _, _, _, _, _, _, _, _, _, _, rfl, hO0, rfl, Nat.zero_le _⟩
  rintro d _ s1 ⟨i, j5, j9, j10, j11, j12, j13, j14, j15, j16, j17, j18, j19, j20, j21, j22, j23, rfl, hO2, hd3, hi⟩
  refine Ends.seq ?_
  refine Ends.region ?_
  by_cases h4 : ((i : Nat) : Int) < ((l.length : Nat) : Int)
  · skip
    refine W.op (v := .bool true) (fr1 := ⟨[_, _, _, _, _, _, _, _, _, .bool true, _, _, _, _, _, _, _, _, _, _, _, _, _, _, _], []⟩) rfl (p_bin (ltT h4)) rfl rfl ?_
    refine EndsOps.nil ?_
    refine Ends.seq ?_
    refine Ends.condT rfl ?_
    refine Ends.skip ?_
    refine Ends.seq ?_
    refine W.block ?_
    refine Ends.seq ?_
    refine Ends.region ?_
    obtain ⟨e5, he6⟩ := ex_at (l := l) (i := i) (by omega)
    refine W.op (v := .pointer (some ⟨Nl, ol + i * 3, none⟩)) (fr1 := ⟨[_, _, _, _, _, _, _, _, _, _, .pointer (some ⟨Nl, ol + i * 3, none⟩), _, _, _, _, _, _, _, _, _, _, _, _, _, _], []⟩) rfl (p_ix (Sl.ix Hl rfl rfl he6 _)) rfl rfl ?_
    refine W.op (v := .agg ⟨[.int .i64 e5.lo, .int .i64 e5.hi, .string e5.tx]⟩) (fr1 := ⟨[_, _, _, _, _, _, _, _, _, _, _, .agg ⟨[.int .i64 e5.lo, .int .i64 e5.hi, .string e5.tx]⟩, _, _, _, _, _, _, _, _, _, _, _, _, _], []⟩) rfl (p_loadA (Sl.row' (Hl.own hO2) he6) rfl rfl rfl rfl ((Hl.own hO2).get _ _ he6)) rfl rfl ?_
    obtain ⟨N7, hN8⟩ : ∃ N, N = s1.next := ⟨_, rfl⟩
    refine W.new (N := N7) (vs := [.int .i64 0, .int .i64 0, .string ByteArray.empty]) (fr1 := ⟨[_, _, _, _, _, .pointer (some ⟨N7, 0, none⟩), _, _, _, _, _, _, _, _, _, _, _, _, _, _, _, _, _, _, _], []⟩) hO2 hN8 rfl (p_alloc zero97 rfl) rfl rfl ?_
    intro s9 hO10 hS11 r12 hB13
    refine W.store2 (cs := [.int .i64 e5.lo, .int .i64 e5.hi, .string e5.tx]) (vs' := [.int .i64 e5.lo, .int .i64 e5.hi, .string e5.tx]) (fr1 := ⟨[_, _, _, _, _, _, _, _, _, _, _, _, _, _, _, _, _, _, _, _, _, _, _, _, _], []⟩) hO10 r12 hB13 rfl rfl rfl rfl (by kernel_rfl) (by simp) (by simp [END, oneCell]) rfl rfl ?_
    intro s14 hO15 hn16 hu17 r18 hX19
    refine EndsOps.nil ?_
    refine Ends.region ?_
    refine W.op (v := .int .i64 (W (growS (l.take i)))) (fr1 := ⟨[_, _, _, _, _, _, _, _, _, _, _, _, .int .i64 (W (growS (l.take i))), _, _, _, _, _, _, _, _, _, _, _, _], []⟩) rfl rfl rfl rfl ?_
    refine W.op (v := .pointer (some ⟨N7, 2, none⟩)) (fr1 := ⟨[_, _, _, _, _, _, _, _, _, _, _, _, _, .pointer (some ⟨N7, 2, none⟩), _, _, _, _, _, _, _, _, _, _, _], []⟩) rfl rfl rfl rfl ?_
    refine W.op (v := .string e5.tx) (fr1 := ⟨[_, _, _, _, _, _, _, _, _, _, _, _, _, _, .string e5.tx, _, _, _, _, _, _, _, _, _, _], []⟩) rfl (p_load1 r18 rfl rfl rfl rfl) rfl rfl ?_
    refine W.op (v := .int .i64 (((B e5.tx).length : Nat) : Int)) (fr1 := ⟨[_, _, _, _, _, _, _, _, _, _, _, _, _, _, _, .int .i64 (((B e5.tx).length : Nat) : Int), _, _, _, _, _, _, _, _, _], []⟩) rfl rfl rfl rfl ?_
    refine W.op (v := .pointer (some ⟨N7, 1, none⟩)) (fr1 := ⟨[_, _, _, _, _, _, _, _, _, _, _, _, _, _, _, _, .pointer (some ⟨N7, 1, none⟩), _, _, _, _, _, _, _, _], []⟩) rfl rfl rfl rfl ?_
    refine W.op (v := .int .i64 e5.hi) (fr1 := ⟨[_, _, _, _, _, _, _, _, _, _, _, _, _, _, _, _, _, .int .i64 e5.hi, _, _, _, _, _, _, _], []⟩) rfl (p_load1 r18 rfl rfl rfl rfl) rfl rfl ?_
    refine W.op (v := .pointer (some ⟨N7, 0, none⟩)) (fr1 := ⟨[_, _, _, _, _, _, _, _, _, _, _, _, _, _, _, _, _, _, .pointer (some ⟨N7, 0, none⟩), _, _, _, _, _, _], []⟩) rfl rfl rfl rfl ?_
    refine W.op (v := .int .i64 e5.lo) (fr1 := ⟨[_, _, _, _, _, _, _, _, _, _, _, _, _, _, _, _, _, _, _, .int .i64 e5.lo, _, _, _, _, _], []⟩) rfl (p_load1 r18 rfl rfl rfl rfl) rfl rfl ?_
    refine W.op (v := .int .i64 (W (e5.hi - e5.lo))) (fr1 := ⟨[_, _, _, _, _, _, _, _, _, _, _, _, _, _, _, _, _, _, _, _, .int .i64 (W (e5.hi - e5.lo)), _, _, _, _], []⟩) rfl (p_bin subW) rfl rfl ?_
    refine W.op (v := .int .i64 (W ((((B e5.tx).length : Nat) : Int) - W (e5.hi - e5.lo)))) (fr1 := ⟨[_, _, _, _, _, _, _, _, _, _, _, _, _, _, _, _, _, _, _, _, _, .int .i64 (W ((((B e5.tx).length : Nat) : Int) - W (e5.hi - e5.lo))), _, _, _], []⟩) rfl (p_bin subW) rfl rfl ?_
    refine W.op (v := .int .i64 (W (growS (l.take (i + 1))))) (fr1 := ⟨[_, _, _, _, _, _, _, _, _, _, _, _, _, _, _, _, _, _, _, _, _, _, .int .i64 (W (growS (l.take (i + 1)))), _, _], []⟩) rfl (p_bin (addW.trans (congrArg (fun z => some (Value.int IntKind.i64 z)) (W_grow1 he6)))) rfl rfl ?_
    refine W.op (v := .int .i64 (W (growS (l.take (i + 1))))) (fr1 := ⟨[_, _, _, .int .i64 (W (growS (l.take (i + 1)))), _, _, _, _, _, _, _, _, _, _, _, _, _, _, _, _, _, _, _, _, _], []⟩) rfl rfl rfl rfl ?_
    refine EndsOps.nil ?_
    refine Ends.region ?_
    refine W.op (v := .int .i64 ((i + 1 : Nat) : Int)) (fr1 := ⟨[_, _, _, _, _, _, _, _, _, _, _, _, _, _, _, _, _, _, _, _, _, _, _, .int .i64 ((i + 1 : Nat) : Int), _], []⟩) rfl (p_bin (addI (by omega) (by omega) (by omega))) rfl rfl ?_
    refine W.op (v := .int .i64 ((i + 1 : Nat) : Int)) (fr1 := ⟨[_, _, _, _, _, _, _, _, .int .i64 ((i + 1 : Nat) : Int), _, _, _, _, _, _, _, _, _, _, _, _, _, _, _, _], []⟩) rfl rfl rfl rfl ?_
    refine EndsOps.nil ?_
    exact ⟨_, (by omega), i + 1, _, _, _, _, _, _, _, _, _, _, _, _, _, _, _, _, rfl, hO15, rfl, by omega⟩
  · skip
    refine W.op (v := .bool false) (fr1 := ⟨[_, _, _, _, _, _, _, _, _, .bool false, _, _, _, _, _, _, _, _, _, _, _, _, _, _, _], []⟩) rfl (p_bin (ltF h4)) rfl rfl ?_
    refine EndsOps.nil ?_
    refine Ends.seq ?_
    refine Ends.condF rfl ?_
    refine Ends.exit ?_
    refine W.outT rfl ?_
    refine Ends.seq ?_
    refine Ends.region ?_
    refine W.op (v := .int .i64 (W (growS (l.take i)))) (fr1 := ⟨[_, _, _, _, _, _, _, _, _, _, _, _, _, _, _, _, _, _, _, _, _, _, _, _, .int .i64 (W (growS (l.take i)))], []⟩) rfl rfl rfl rfl ?_
    refine W.op (v := .int .i64 (W (growS (l.take i)))) (fr1 := ⟨[_, _, .int .i64 (W (growS (l.take i))), _, _, _, _, _, _, _, _, _, _, _, _, _, _, _, _, _, _, _, _, _, _], []⟩) rfl rfl rfl rfl ?_
    refine EndsOps.nil ?_
    refine Ends.ret ?_
    exact ⟨rfl, rfl, hO2, by
      show Value.int .i64 (W (growS (l.take i))) = .int .i64 (W (growS l))
      rw [show i = l.length by omega, List.take_length]⟩

theorem c38 (al : Option Addr) (l : List Ed) (cl Nl ol : Nat) (vl : List Value) (yl zl : Nat) (s : St) (Hl : Sl Ed.cells 3 s.t s.next al l Nl ol vl yl zl)  : EndsPure R1.T 38 [.slice al l.length cl] s (fun v _ _ => v = .int .i64 (W (growS l))) := by
  refine EndsPure.of (rs := [2]) (fr0 := ⟨[.slice al l.length cl, undef, undef, undef, undef, undef, undef, undef, undef, undef, undef, undef, undef, undef, undef, undef, undef, undef, undef, undef, undef, undef, undef, undef, undef, undef, undef, undef, undef, undef, undef, undef], []⟩) (by kernel_rfl : R1.T.fn 38 = some ⟨32, (Try.f38.body).getD .skip, [.tmp 2]⟩) rfl ?_
  have hO0 := Own.refl s
  have Ml := Hl.small
  simp only [Try.f38, Option.getD]
  refine Ends.seq ?_
  refine Ends.region ?_
  refine W.op (v := .int .i64 0) (fr1 := ⟨[_, _, .int .i64 0, _, _, _, _, _, _, _, _, _, _, _, _, _, _, _, _, _, _, _, _, _, _, _, _, _, _, _, _, _], []⟩) rfl rfl rfl rfl ?_
  refine EndsOps.nil ?_
  refine Ends.seq ?_
  refine Ends.region ?_
  refine W.op (v := .int .i64 0) (fr1 := ⟨[_, _, _, .int .i64 0, _, _, _, _, _, _, _, _, _, _, _, _, _, _, _, _, _, _, _, _, _, _, _, _, _, _, _, _], []⟩) rfl rfl rfl rfl ?_
  refine EndsOps.nil ?_
  refine Ends.seq ?_
  refine Ends.seq ?_
  refine Ends.region ?_
  refine W.op (v := .int .i64 0) (fr1 := ⟨[_, _, _, _, .int .i64 0, _, _, _, _, _, _, _, _, _, _, _, _, _, _, _, _, _, _, _, _, _, _, _, _, _, _, _], []⟩) rfl rfl rfl rfl ?_
  refine EndsOps.nil ?_
  refine W.block ?_
  refine Ends.loopInv (fun d fr s1 => ∃ (i : Nat) (j5 j6 j7 j8 j9 j10 j11 j12 j13 j14 j15 j16 j17 j18 j19 j20 j21 j22 j23 j24 j25 j26 j27 j28 j29 j30 : Value), fr = ⟨[.slice al l.length cl, undef, .int .i64 0, .int .i64 (W (growS (l.take i))), .int .i64 ((i : Nat) : Int), j5, j6, j7, j8, j9, j10, j11, j12, j13, j14, j15, j16, j17, j18, j19, j20, j21, j22, j23, j24, j25, j26, j27, j28, j29, j30, undef], []⟩ ∧ Own s s1 ∧ d = l.length - i ∧ (i ≤ l.length)) ?_ _ _ _ ⟨0, _, _, _, _, _, _, _, _, _, _, _, _, _, _, _, _, _, _, _, _, _, _, _, _, _, _, rfl, hO0, rfl, Nat.zero_le _⟩
  rintro d _ s1 ⟨i, j5, j6, j7, j8, j9, j10, j11, j12, j13, j14, j15, j16, j17, j18, j19, j20, j21, j22, j23, j24, j25, j26, j27, j28, j29, j30, rfl, hO2, hd3, hi⟩
  refine Ends.seq ?_
  refine Ends.seq ?_
  refine Ends.region ?_
  refine W.op (v := .int .i64 ((i : Nat) : Int)) (fr1 := ⟨[_, _, _, _, _, .int .i64 ((i : Nat) : Int), _, _, _, _, _, _, _, _, _, _, _, _, _, _, _, _, _, _, _, _, _, _, _, _, _, _], []⟩) rfl rfl rfl rfl ?_
  refine W.op (v := .slice al l.length cl) (fr1 := ⟨[_, _, _, _, _, _, .slice al l.length cl, _, _, _, _, _, _, _, _, _, _, _, _, _, _, _, _, _, _, _, _, _, _, _, _, _], []⟩) rfl rfl rfl rfl ?_
  refine W.op (v := .int .i64 ((l.length : Nat) : Int)) (fr1 := ⟨[_, _, _, _, _, _, _, .int .i64 ((l.length : Nat) : Int), _, _, _, _, _, _, _, _, _, _, _, _, _, _, _, _, _, _, _, _, _, _, _, _], []⟩) rfl rfl rfl rfl ?_
  by_cases h4 : ((i : Nat) : Int) < ((l.length : Nat) : Int)
  · skip
    refine W.op (v := .bool true) (fr1 := ⟨[_, _, _, _, _, _, _, _, .bool true, _, _, _, _, _, _, _, _, _, _, _, _, _, _, _, _, _, _, _, _, _, _, _], []⟩) rfl (p_bin (ltT h4)) rfl rfl ?_
    refine EndsOps.nil ?_
    refine Ends.condT rfl ?_
    refine Ends.skip ?_
    refine Ends.seq ?_
    refine W.block ?_
    refine Ends.drawW (bef := [0, 0, 0, 6, 14, 30, 62, 127, 0, 0, 768, 1792, 3840, 8191, 0, 0, 49152, 114688, 245760, 524287, 1048575]) (by kernel_rfl) ?_
    refine D.op (v := .int .i64 (W (growS (l.take i)))) (fr1 := ⟨[_, _, _, _, _, _, _, _, _, _, _, .int .i64 (W (growS (l.take i))), _, _, _, _, _, _, _, _, _, _, _, _, _, _, _, _, _, _, _, _], []⟩) rfl rfl rfl rfl rfl ?_
    refine D.op (v := .slice al l.length cl) (fr1 := ⟨[_, _, _, _, _, _, _, _, _, _, _, _, .slice al l.length cl, _, _, _, _, _, _, _, _, _, _, _, _, _, _, _, _, _, _, _], []⟩) rfl rfl rfl rfl rfl ?_
    refine D.op (v := .int .i64 ((i : Nat) : Int)) (fr1 := ⟨[_, _, _, _, _, _, _, _, _, _, _, _, _, .int .i64 ((i : Nat) : Int), _, _, _, _, _, _, _, _, _, _, _, _, _, _, _, _, _, _], []⟩) rfl rfl rfl rfl rfl ?_
    obtain ⟨e5, he6⟩ := ex_at (l := l) (i := i) (by omega)
    refine D.op (v := .pointer (some ⟨Nl, ol + i * 3, none⟩)) (fr1 := ⟨[_, _, _, _, _, _, _, _, _, _, _, _, _, _, .pointer (some ⟨Nl, ol + i * 3, none⟩), _, _, _, _, _, _, _, _, _, _, _, _, _, _, _, _, _], []⟩) rfl (p_ix (Sl.ix Hl rfl rfl he6 _)) rfl rfl rfl ?_
    refine D.op (v := .pointer (some ⟨Nl, ol + i * 3 + 2, none⟩)) (fr1 := ⟨[_, _, _, _, _, _, _, _, _, _, _, _, _, _, _, .pointer (some ⟨Nl, ol + i * 3 + 2, none⟩), _, _, _, _, _, _, _, _, _, _, _, _, _, _, _, _], []⟩) rfl rfl rfl rfl rfl ?_
    refine D.load (v := .string e5.tx) (fr1 := ⟨[_, _, _, _, _, _, _, _, _, _, _, _, _, _, _, _, .string e5.tx, _, _, _, _, _, _, _, _, _, _, _, _, _, _, _], []⟩) rfl rfl rfl (fun _ h => by cases h) (fun s1 hg => (p_load1 ⟨hg.trans ((Sl.row' (Hl.own hO2) he6)).get, ((Sl.row' (Hl.own hO2) he6)).lt⟩ rfl rfl rfl ((Hl.own hO2).at he6 rfl))) rfl ?_
    refine D.op (v := .int .i64 (((B e5.tx).length : Nat) : Int)) (fr1 := ⟨[_, _, _, _, _, _, _, _, _, _, _, _, _, _, _, _, _, .int .i64 (((B e5.tx).length : Nat) : Int), _, _, _, _, _, _, _, _, _, _, _, _, _, _], []⟩) rfl rfl rfl rfl rfl ?_
    refine D.op (v := .int .i64 (W (W (growS (l.take i)) + (((B e5.tx).length : Nat) : Int)))) (fr1 := ⟨[_, _, _, _, _, _, _, _, _, _, _, _, _, _, _, _, _, _, .int .i64 (W (W (growS (l.take i)) + (((B e5.tx).length : Nat) : Int))), _, _, _, _, _, _, _, _, _, _, _, _, _], []⟩) rfl (p_bin addW) rfl rfl rfl ?_
    refine D.op (v := .slice al l.length cl) (fr1 := ⟨[_, _, _, _, _, _, _, _, _, _, _, _, _, _, _, _, _, _, _, .slice al l.length cl, _, _, _, _, _, _, _, _, _, _, _, _], []⟩) rfl rfl rfl rfl rfl ?_
    refine D.op (v := .int .i64 ((i : Nat) : Int)) (fr1 := ⟨[_, _, _, _, _, _, _, _, _, _, _, _, _, _, _, _, _, _, _, _, .int .i64 ((i : Nat) : Int), _, _, _, _, _, _, _, _, _, _, _], []⟩) rfl rfl rfl rfl rfl ?_
    refine D.op (v := .pointer (some ⟨Nl, ol + i * 3, none⟩)) (fr1 := ⟨[_, _, _, _, _, _, _, _, _, _, _, _, _, _, _, _, _, _, _, _, _, .pointer (some ⟨Nl, ol + i * 3, none⟩), _, _, _, _, _, _, _, _, _, _], []⟩) rfl (p_ix (Sl.ix Hl rfl rfl he6 _)) rfl rfl rfl ?_
    refine D.op (v := .pointer (some ⟨Nl, ol + i * 3 + 1, none⟩)) (fr1 := ⟨[_, _, _, _, _, _, _, _, _, _, _, _, _, _, _, _, _, _, _, _, _, _, .pointer (some ⟨Nl, ol + i * 3 + 1, none⟩), _, _, _, _, _, _, _, _, _], []⟩) rfl rfl rfl rfl rfl ?_
    refine D.load (v := .int .i64 e5.hi) (fr1 := ⟨[_, _, _, _, _, _, _, _, _, _, _, _, _, _, _, _, _, _, _, _, _, _, _, .int .i64 e5.hi, _, _, _, _, _, _, _, _], []⟩) rfl rfl rfl (fun _ h => by cases h) (fun s1 hg => (p_load1 ⟨hg.trans ((Sl.row' (Hl.own hO2) he6)).get, ((Sl.row' (Hl.own hO2) he6)).lt⟩ rfl rfl rfl ((Hl.own hO2).at he6 rfl))) rfl ?_
    refine D.op (v := .int .i64 (W (W (W (growS (l.take i)) + (((B e5.tx).length : Nat) : Int)) - e5.hi))) (fr1 := ⟨[_, _, _, _, _, _, _, _, _, _, _, _, _, _, _, _, _, _, _, _, _, _, _, _, .int .i64 (W (W (W (growS (l.take i)) + (((B e5.tx).length : Nat) : Int)) - e5.hi)), _, _, _, _, _, _, _], []⟩) rfl (p_bin subW) rfl rfl rfl ?_
    refine D.op (v := .slice al l.length cl) (fr1 := ⟨[_, _, _, _, _, _, _, _, _, _, _, _, _, _, _, _, _, _, _, _, _, _, _, _, _, .slice al l.length cl, _, _, _, _, _, _], []⟩) rfl rfl rfl rfl rfl ?_
    refine D.op (v := .int .i64 ((i : Nat) : Int)) (fr1 := ⟨[_, _, _, _, _, _, _, _, _, _, _, _, _, _, _, _, _, _, _, _, _, _, _, _, _, _, .int .i64 ((i : Nat) : Int), _, _, _, _, _], []⟩) rfl rfl rfl rfl rfl ?_
    refine D.op (v := .pointer (some ⟨Nl, ol + i * 3, none⟩)) (fr1 := ⟨[_, _, _, _, _, _, _, _, _, _, _, _, _, _, _, _, _, _, _, _, _, _, _, _, _, _, _, .pointer (some ⟨Nl, ol + i * 3, none⟩), _, _, _, _], []⟩) rfl (p_ix (Sl.ix Hl rfl rfl he6 _)) rfl rfl rfl ?_
    refine D.op (v := .pointer (some ⟨Nl, ol + i * 3 + 0, none⟩)) (fr1 := ⟨[_, _, _, _, _, _, _, _, _, _, _, _, _, _, _, _, _, _, _, _, _, _, _, _, _, _, _, _, .pointer (some ⟨Nl, ol + i * 3 + 0, none⟩), _, _, _], []⟩) rfl rfl rfl rfl rfl ?_
    refine D.load (v := .int .i64 e5.lo) (fr1 := ⟨[_, _, _, _, _, _, _, _, _, _, _, _, _, _, _, _, _, _, _, _, _, _, _, _, _, _, _, _, _, .int .i64 e5.lo, _, _], []⟩) rfl rfl rfl (fun _ h => by cases h) (fun s1 hg => (p_load1 ⟨hg.trans ((Sl.row' (Hl.own hO2) he6)).get, ((Sl.row' (Hl.own hO2) he6)).lt⟩ rfl rfl rfl ((Hl.own hO2).at he6 rfl))) rfl ?_
    refine D.op (v := .int .i64 (W (growS (l.take (i + 1))))) (fr1 := ⟨[_, _, _, _, _, _, _, _, _, _, _, _, _, _, _, _, _, _, _, _, _, _, _, _, _, _, _, _, _, _, .int .i64 (W (growS (l.take (i + 1)))), _], []⟩) rfl (p_bin (addW.trans (congrArg (fun z => some (Value.int IntKind.i64 z)) (W_grow2 he6)))) rfl rfl rfl ?_
    refine D.op (v := .int .i64 (W (growS (l.take (i + 1))))) (fr1 := ⟨[_, _, _, .int .i64 (W (growS (l.take (i + 1)))), _, _, _, _, _, _, _, _, _, _, _, _, _, _, _, _, _, _, _, _, _, _, _, _, _, _, _, _], []⟩) rfl rfl rfl rfl rfl ?_
    refine D.nil ?_
    refine Ends.region ?_
    refine W.op (v := .int .i64 ((i : Nat) : Int)) (fr1 := ⟨[_, _, _, _, _, _, _, _, _, .int .i64 ((i : Nat) : Int), _, _, _, _, _, _, _, _, _, _, _, _, _, _, _, _, _, _, _, _, _, _], []⟩) rfl rfl rfl rfl ?_
    refine W.op (v := .int .i64 ((i + 1 : Nat) : Int)) (fr1 := ⟨[_, _, _, _, _, _, _, _, _, _, .int .i64 ((i + 1 : Nat) : Int), _, _, _, _, _, _, _, _, _, _, _, _, _, _, _, _, _, _, _, _, _], []⟩) rfl (p_bin (addI (by omega) (by omega) (by omega))) rfl rfl ?_
    refine W.op (v := .int .i64 ((i + 1 : Nat) : Int)) (fr1 := ⟨[_, _, _, _, .int .i64 ((i + 1 : Nat) : Int), _, _, _, _, _, _, _, _, _, _, _, _, _, _, _, _, _, _, _, _, _, _, _, _, _, _, _], []⟩) rfl rfl rfl rfl ?_
    refine EndsOps.nil ?_
    exact ⟨_, (by omega), i + 1, _, _, _, _, _, _, _, _, _, _, _, _, _, _, _, _, _, _, _, _, _, _, _, _, _, _, rfl, hO2, rfl, by omega⟩
  · skip
    refine W.op (v := .bool false) (fr1 := ⟨[_, _, _, _, _, _, _, _, .bool false, _, _, _, _, _, _, _, _, _, _, _, _, _, _, _, _, _, _, _, _, _, _, _], []⟩) rfl (p_bin (ltF h4)) rfl rfl ?_
    refine EndsOps.nil ?_
    refine Ends.condF rfl ?_
    refine Ends.exit ?_
    refine W.outT rfl ?_
    refine Ends.seq ?_
    refine Ends.region ?_
    refine W.op (v := .int .i64 (W (growS (l.take i)))) (fr1 := ⟨[_, _, _, _, _, _, _, _, _, _, _, _, _, _, _, _, _, _, _, _, _, _, _, _, _, _, _, _, _, _, _, .int .i64 (W (growS (l.take i)))], []⟩) rfl rfl rfl rfl ?_
    refine W.op (v := .int .i64 (W (growS (l.take i)))) (fr1 := ⟨[_, _, .int .i64 (W (growS (l.take i))), _, _, _, _, _, _, _, _, _, _, _, _, _, _, _, _, _, _, _, _, _, _, _, _, _, _, _, _, _], []⟩) rfl rfl rfl rfl ?_
    refine EndsOps.nil ?_
    refine Ends.ret ?_
    exact ⟨rfl, rfl, hO2, by
      show Value.int .i64 (W (growS (l.take i))) = .int .i64 (W (growS l))
      rw [show i = l.length by omega, List.take_length]⟩

theorem c34 (al : Option Addr) (l : List Ed) (cl Nl ol : Nat) (vl : List Value) (yl zl : Nat) (n : Int) (s : St) (Hl : Sl Ed.cells 3 s.t s.next al l Nl ol vl yl zl)  : EndsPure R1.T 34 [.slice al l.length cl, .int .i64 n] s (fun v _ _ => v = if Right l n then .tuple ⟨[.int .i64 (W (growS l)), .nilIface]⟩ else .tuple ⟨[.int .i64 0, .iface 37 (.int .i64 2)]⟩) := by
  refine EndsPure.of (rs := [4, 5]) (fr0 := ⟨[.slice al l.length cl, .int .i64 n, undef, undef, undef, undef, undef, undef, undef, undef, undef, undef, undef], []⟩) (by kernel_rfl : R1.T.fn 34 = some ⟨13, (Try.f34.body).getD .skip, [.tmp 4, .tmp 5]⟩) rfl ?_
  have hO0 := Own.refl s
  have Ml := Hl.small
  simp only [Try.f34, Option.getD]
  refine Ends.seq ?_
  refine Ends.region ?_
  refine W.op (v := .int .i64 0) (fr1 := ⟨[_, _, _, _, .int .i64 0, _, _, _, _, _, _, _, _], []⟩) rfl rfl rfl rfl ?_
  refine W.op (v := .nilIface) (fr1 := ⟨[_, _, _, _, _, .nilIface, _, _, _, _, _, _, _], []⟩) rfl rfl rfl rfl ?_
  refine EndsOps.nil ?_
  refine Ends.seq ?_
  refine Ends.seq ?_
  refine Ends.region ?_
  refine W.op (v := .slice al l.length cl) (fr1 := ⟨[_, _, _, _, _, _, .slice al l.length cl, _, _, _, _, _, _], []⟩) rfl rfl rfl rfl ?_
  refine W.op (v := .int .i64 n) (fr1 := ⟨[_, _, _, _, _, _, _, .int .i64 n, _, _, _, _, _], []⟩) rfl rfl rfl rfl ?_
  by_cases h1 : Right l n
  · skip
    refine W.call (ar := [.slice al l.length cl, .int .i64 n]) (X := .bool true) (fr1 := ⟨[_, _, _, _, _, _, _, _, .bool true, _, _, _, _], []⟩) hO0 rfl rfl rfl rfl ((c35 _ _ _ _ _ _ _ _ n _ (Hl.own hO0)).mono fun v _ _ h => h.trans (congrArg Value.bool (decide_eq_true h1))) rfl ?_
    intro s2 hO3 hS4
    refine W.op (v := .bool false) (fr1 := ⟨[_, _, _, _, _, _, _, _, _, .bool false, _, _, _], []⟩) rfl rfl rfl rfl ?_
    refine EndsOps.nil ?_
    refine Ends.condF rfl ?_
    refine Ends.skip ?_
    refine Ends.seq ?_
    refine Ends.region ?_
    refine W.op (v := .slice al l.length cl) (fr1 := ⟨[_, _, _, _, _, _, _, _, _, _, _, .slice al l.length cl, _], []⟩) rfl rfl rfl rfl ?_
    refine W.call (ar := [.slice al l.length cl]) (X := .int .i64 (W (growS l))) (fr1 := ⟨[_, _, _, _, _, _, _, _, _, _, _, _, .int .i64 (W (growS l))], []⟩) hO3 rfl rfl rfl rfl (c72 _ _ _ _ _ _ _ _ _ (Hl.own hO3)) rfl ?_
    intro s5 hO6 hS7
    refine W.op (v := .int .i64 (W (growS l))) (fr1 := ⟨[_, _, _, _, .int .i64 (W (growS l)), _, _, _, _, _, _, _, _], []⟩) rfl rfl rfl rfl ?_
    refine W.op (v := .nilIface) (fr1 := ⟨[_, _, _, _, _, .nilIface, _, _, _, _, _, _, _], []⟩) rfl rfl rfl rfl ?_
    refine EndsOps.nil ?_
    refine Ends.ret ?_
    exact ⟨rfl, rfl, hO6, by
      show Value.tuple ⟨[.int .i64 (W (growS l)), .nilIface]⟩ = if Right l n then .tuple ⟨[.int .i64 (W (growS l)), .nilIface]⟩ else .tuple ⟨[.int .i64 0, .iface 37 (.int .i64 2)]⟩
      rw [if_pos h1]⟩
  · skip
    refine W.call (ar := [.slice al l.length cl, .int .i64 n]) (X := .bool false) (fr1 := ⟨[_, _, _, _, _, _, _, _, .bool false, _, _, _, _], []⟩) hO0 rfl rfl rfl rfl ((c35 _ _ _ _ _ _ _ _ n _ (Hl.own hO0)).mono fun v _ _ h => h.trans (congrArg Value.bool (decide_eq_false h1))) rfl ?_
    intro s8 hO9 hS10
    refine W.op (v := .bool true) (fr1 := ⟨[_, _, _, _, _, _, _, _, _, .bool true, _, _, _], []⟩) rfl rfl rfl rfl ?_
    refine EndsOps.nil ?_
    refine Ends.condT rfl ?_
    refine Ends.seq ?_
    refine Ends.region ?_
    refine W.op (v := .iface 37 (.int .i64 2)) (fr1 := ⟨[_, _, _, _, _, _, _, _, _, _, .iface 37 (.int .i64 2), _, _], []⟩) rfl rfl rfl rfl ?_
    refine W.op (v := .int .i64 0) (fr1 := ⟨[_, _, _, _, .int .i64 0, _, _, _, _, _, _, _, _], []⟩) rfl rfl rfl rfl ?_
    refine W.op (v := .iface 37 (.int .i64 2)) (fr1 := ⟨[_, _, _, _, _, .iface 37 (.int .i64 2), _, _, _, _, _, _, _], []⟩) rfl rfl rfl rfl ?_
    refine EndsOps.nil ?_
    refine Ends.ret ?_
    exact ⟨rfl, rfl, hO9, by
      show Value.tuple ⟨[.int .i64 0, .iface 37 (.int .i64 2)]⟩ = if Right l n then .tuple ⟨[.int .i64 (W (growS l)), .nilIface]⟩ else .tuple ⟨[.int .i64 0, .iface 37 (.int .i64 2)]⟩
      rw [if_neg h1]⟩

theorem c91 (al : Option Addr) (l : List Ed) (cl Nl ol : Nat) (vl : List Value) (yl zl : Nat) (s : St) (Hl : Sl Ed.cells 3 s.t s.next al l Nl ol vl yl zl)  : EndsPure R1.T 91 [.slice al l.length cl, .func (.func 76) ⟨[]⟩ ⟨[]⟩] s (fun v _ _ => v = .int .i64 (firstN l)) := by
  refine EndsPure.of (rs := [4]) (fr0 := ⟨[.slice al l.length cl, .func (.func 76) ⟨[]⟩ ⟨[]⟩, undef, undef, undef, undef, undef, undef, undef, undef, undef, undef, undef, undef, undef, undef, undef, undef, undef], []⟩) (by kernel_rfl : R1.T.fn 91 = some ⟨19, (Try.f91.body).getD .skip, [.tmp 4]⟩) rfl ?_
  have hO0 := Own.refl s
  have Ml := Hl.small
  simp only [Try.f91, Option.getD]
  refine Ends.seq ?_
  refine Ends.region ?_
  refine W.op (v := .int .i64 0) (fr1 := ⟨[_, _, _, _, .int .i64 0, _, _, _, _, _, _, _, _, _, _, _, _, _, _], []⟩) rfl rfl rfl rfl ?_
  refine EndsOps.nil ?_
  refine Ends.seq ?_
  refine Ends.seq ?_
  refine Ends.region ?_
  refine W.op (v := .slice al l.length cl) (fr1 := ⟨[_, _, _, _, _, _, .slice al l.length cl, _, _, _, _, _, _, _, _, _, _, _, _], []⟩) rfl rfl rfl rfl ?_
  refine W.op (v := .int .i64 ((l.length : Nat) : Int)) (fr1 := ⟨[_, _, _, _, _, _, _, .int .i64 ((l.length : Nat) : Int), _, _, _, _, _, _, _, _, _, _, _], []⟩) rfl rfl rfl rfl ?_
  refine W.op (v := .int .i64 0) (fr1 := ⟨[_, _, _, _, _, _, _, _, .int .i64 0, _, _, _, _, _, _, _, _, _, _], []⟩) rfl rfl rfl rfl ?_
  refine EndsOps.nil ?_
  refine W.block ?_
  refine Ends.loopInv (fun d fr s1 => ∃ (i : Nat) (j4 j5 j9 j10 j11 j12 j13 j14 j15 j16 j17 j18 : Value), fr = ⟨[.slice al l.length cl, .func (.func 76) ⟨[]⟩ ⟨[]⟩, undef, undef, j4, j5, .slice al l.length cl, .int .i64 ((l.length : Nat) : Int), .int .i64 ((i : Nat) : Int), j9, j10, j11, j12, j13, j14, j15, j16, j17, j18], []⟩ ∧ Own s s1 ∧ d = l.length - i ∧ (i ≤ l.length) ∧ (NoN l i)) ?_ _ _ _ ⟨0, _, _, _, _, _, _, _, _, _, _, _, _, rfl, hO0, rfl, Nat.zero_le _, (fun k hk => absurd hk (Nat.not_lt_zero k))⟩
  rintro d _ s1 ⟨i, j4, j5, j9, j10, j11, j12, j13, j14, j15, j16, j17, j18, rfl, hO2, hd3, hi, hn⟩
  refine Ends.seq ?_
  refine Ends.region ?_
  by_cases h4 : ((i : Nat) : Int) < ((l.length : Nat) : Int)
  · skip
    refine W.op (v := .bool true) (fr1 := ⟨[_, _, _, _, _, _, _, _, _, .bool true, _, _, _, _, _, _, _, _, _], []⟩) rfl (p_bin (ltT h4)) rfl rfl ?_
    refine EndsOps.nil ?_
    refine Ends.seq ?_
    refine Ends.condT rfl ?_
    refine Ends.skip ?_
    refine Ends.seq ?_
    refine W.block ?_
    refine Ends.seq ?_
    refine Ends.region ?_
    refine W.op (v := .int .i64 ((i : Nat) : Int)) (fr1 := ⟨[_, _, _, _, _, _, _, _, _, _, .int .i64 ((i : Nat) : Int), _, _, _, _, _, _, _, _], []⟩) rfl rfl rfl rfl ?_
    refine W.op (v := .int .i64 ((i : Nat) : Int)) (fr1 := ⟨[_, _, _, _, _, .int .i64 ((i : Nat) : Int), _, _, _, _, _, _, _, _, _, _, _, _, _], []⟩) rfl rfl rfl rfl ?_
    refine EndsOps.nil ?_
    refine Ends.seq ?_
    refine Ends.region ?_
    refine W.op (v := .func (.func 76) ⟨[]⟩ ⟨[]⟩) (fr1 := ⟨[_, _, _, _, _, _, _, _, _, _, _, .func (.func 76) ⟨[]⟩ ⟨[]⟩, _, _, _, _, _, _, _], []⟩) rfl rfl rfl rfl ?_
    refine W.op (v := .slice al l.length cl) (fr1 := ⟨[_, _, _, _, _, _, _, _, _, _, _, _, .slice al l.length cl, _, _, _, _, _, _], []⟩) rfl rfl rfl rfl ?_
    refine W.op (v := .int .i64 ((i : Nat) : Int)) (fr1 := ⟨[_, _, _, _, _, _, _, _, _, _, _, _, _, .int .i64 ((i : Nat) : Int), _, _, _, _, _], []⟩) rfl rfl rfl rfl ?_
    obtain ⟨e5, he6⟩ := ex_at (l := l) (i := i) (by omega)
    refine W.op (v := .pointer (some ⟨Nl, ol + i * 3, none⟩)) (fr1 := ⟨[_, _, _, _, _, _, _, _, _, _, _, _, _, _, .pointer (some ⟨Nl, ol + i * 3, none⟩), _, _, _, _], []⟩) rfl (p_ix (Sl.ix Hl rfl rfl he6 _)) rfl rfl ?_
    refine W.op (v := .agg ⟨[.int .i64 e5.lo, .int .i64 e5.hi, .string e5.tx]⟩) (fr1 := ⟨[_, _, _, _, _, _, _, _, _, _, _, _, _, _, _, .agg ⟨[.int .i64 e5.lo, .int .i64 e5.hi, .string e5.tx]⟩, _, _, _], []⟩) rfl (p_loadA (Sl.row' (Hl.own hO2) he6) rfl rfl rfl rfl ((Hl.own hO2).get _ _ he6)) rfl rfl ?_
    by_cases h7 : Nothing e5
    · skip
      refine W.call (ar := [.agg ⟨[.int .i64 e5.lo, .int .i64 e5.hi, .string e5.tx]⟩]) (X := .bool true) (fr1 := ⟨[_, _, _, _, _, _, _, _, _, _, _, _, _, _, _, _, .bool true, _, _], []⟩) hO2 rfl rfl rfl rfl ((c76 e5 _).mono fun v _ _ h => h.trans (congrArg Value.bool (decide_eq_true h7))) rfl ?_
      intro s8 hO9 hS10
      refine EndsOps.nil ?_
      refine Ends.condT rfl ?_
      refine Ends.seq ?_
      refine Ends.region ?_
      refine W.op (v := .int .i64 ((i : Nat) : Int)) (fr1 := ⟨[_, _, _, _, _, _, _, _, _, _, _, _, _, _, _, _, _, .int .i64 ((i : Nat) : Int), _], []⟩) rfl rfl rfl rfl ?_
      refine W.op (v := .int .i64 ((i : Nat) : Int)) (fr1 := ⟨[_, _, _, _, .int .i64 ((i : Nat) : Int), _, _, _, _, _, _, _, _, _, _, _, _, _, _], []⟩) rfl rfl rfl rfl ?_
      refine EndsOps.nil ?_
      refine Ends.ret ?_
      exact ⟨rfl, rfl, hO9, by
        show Value.int .i64 ((i : Nat) : Int) = .int .i64 (firstN l)
        exact congrArg (Value.int IntKind.i64) (firstN_at he6 h7 hn).symm⟩
    · skip
      refine W.call (ar := [.agg ⟨[.int .i64 e5.lo, .int .i64 e5.hi, .string e5.tx]⟩]) (X := .bool false) (fr1 := ⟨[_, _, _, _, _, _, _, _, _, _, _, _, _, _, _, _, .bool false, _, _], []⟩) hO2 rfl rfl rfl rfl ((c76 e5 _).mono fun v _ _ h => h.trans (congrArg Value.bool (decide_eq_false h7))) rfl ?_
      intro s11 hO12 hS13
      refine EndsOps.nil ?_
      refine Ends.condF rfl ?_
      refine Ends.skip ?_
      refine Ends.region ?_
      refine W.op (v := .int .i64 ((i + 1 : Nat) : Int)) (fr1 := ⟨[_, _, _, _, _, _, _, _, _, _, _, _, _, _, _, _, _, _, .int .i64 ((i + 1 : Nat) : Int)], []⟩) rfl (p_bin (addI (by omega) (by omega) (by omega))) rfl rfl ?_
      refine W.op (v := .int .i64 ((i + 1 : Nat) : Int)) (fr1 := ⟨[_, _, _, _, _, _, _, _, .int .i64 ((i + 1 : Nat) : Int), _, _, _, _, _, _, _, _, _, _], []⟩) rfl rfl rfl rfl ?_
      refine EndsOps.nil ?_
      exact ⟨_, (by omega), i + 1, _, _, _, _, _, _, _, _, _, _, _, _, rfl, hO12, rfl, by omega, NoN.step hn he6 h7⟩
  · skip
    refine W.op (v := .bool false) (fr1 := ⟨[_, _, _, _, _, _, _, _, _, .bool false, _, _, _, _, _, _, _, _, _], []⟩) rfl (p_bin (ltF h4)) rfl rfl ?_
    refine EndsOps.nil ?_
    refine Ends.seq ?_
    refine Ends.condF rfl ?_
    refine Ends.exit ?_
    refine W.outT rfl ?_
    refine Ends.seq ?_
    refine Ends.region ?_
    refine W.op (v := .int .i64 (-1)) (fr1 := ⟨[_, _, _, _, .int .i64 (-1), _, _, _, _, _, _, _, _, _, _, _, _, _, _], []⟩) rfl rfl rfl rfl ?_
    refine EndsOps.nil ?_
    refine Ends.ret ?_
    exact ⟨rfl, rfl, hO2, by
      show Value.int .i64 (-1) = .int .i64 (firstN l)
      exact congrArg (Value.int IntKind.i64) (firstN_none hn (by omega)).symm⟩

theorem c75 (al : Option Addr) (l : List Ed) (cl Nl ol : Nat) (vl : List Value) (yl zl : Nat) (s : St) (Hl : Sl Ed.cells 3 s.t s.next al l Nl ol vl yl zl)  : EndsPure R1.T 75 [.slice al l.length cl, .func (.func 76) ⟨[]⟩ ⟨[]⟩] s (fun v _ _ => v = .bool (decide (0 ≤ firstN l))) := by
  refine EndsPure.of (rs := [4]) (fr0 := ⟨[.slice al l.length cl, .func (.func 76) ⟨[]⟩ ⟨[]⟩, undef, undef, undef, undef, undef, undef, undef], []⟩) (by kernel_rfl : R1.T.fn 75 = some ⟨9, (Try.f75.body).getD .skip, [.tmp 4]⟩) rfl ?_
  have hO0 := Own.refl s
  have Ml := Hl.small
  simp only [Try.f75, Option.getD]
  refine Ends.seq ?_
  refine Ends.region ?_
  refine W.op (v := .bool false) (fr1 := ⟨[_, _, _, _, .bool false, _, _, _, _], []⟩) rfl rfl rfl rfl ?_
  refine EndsOps.nil ?_
  refine Ends.seq ?_
  refine Ends.region ?_
  refine W.op (v := .slice al l.length cl) (fr1 := ⟨[_, _, _, _, _, .slice al l.length cl, _, _, _], []⟩) rfl rfl rfl rfl ?_
  refine W.op (v := .func (.func 76) ⟨[]⟩ ⟨[]⟩) (fr1 := ⟨[_, _, _, _, _, _, .func (.func 76) ⟨[]⟩ ⟨[]⟩, _, _], []⟩) rfl rfl rfl rfl ?_
  refine W.call (ar := [.slice al l.length cl, .func (.func 76) ⟨[]⟩ ⟨[]⟩]) (X := .int .i64 (firstN l)) (fr1 := ⟨[_, _, _, _, _, _, _, .int .i64 (firstN l), _], []⟩) hO0 rfl rfl rfl rfl (c91 _ _ _ _ _ _ _ _ _ (Hl.own hO0)) rfl ?_
  intro s1 hO2 hS3
  by_cases h4 : (0 : Int) ≤ firstN l
  · skip
    refine W.op (v := .bool true) (fr1 := ⟨[_, _, _, _, _, _, _, _, .bool true], []⟩) rfl (p_bin (geT h4)) rfl rfl ?_
    refine W.op (v := .bool true) (fr1 := ⟨[_, _, _, _, .bool true, _, _, _, _], []⟩) rfl rfl rfl rfl ?_
    refine EndsOps.nil ?_
    refine Ends.ret ?_
    exact ⟨rfl, rfl, hO2, by
      show Value.bool true = .bool (decide (0 ≤ firstN l))
      simp only [decide_true, decide_false, *]⟩
  · skip
    refine W.op (v := .bool false) (fr1 := ⟨[_, _, _, _, _, _, _, _, .bool false], []⟩) rfl (p_bin (geF h4)) rfl rfl ?_
    refine W.op (v := .bool false) (fr1 := ⟨[_, _, _, _, .bool false, _, _, _, _], []⟩) rfl rfl rfl rfl ?_
    refine EndsOps.nil ?_
    refine Ends.ret ?_
    exact ⟨rfl, rfl, hO2, by
      show Value.bool false = .bool (decide (0 ≤ firstN l))
      simp only [decide_true, decide_false, *]⟩

theorem c36 (al : Option Addr) (l : List Ed) (cl Nl ol : Nat) (vl : List Value) (yl zl : Nat) (n : Int) (s : St) (Hl : Sl Ed.cells 3 s.t s.next al l Nl ol vl yl zl)  : EndsPure R1.T 36 [.slice al l.length cl, .int .i64 n] s (fun v _ _ => v = .bool (decide (Plain l n))) := by
  refine EndsPure.of (rs := [4]) (fr0 := ⟨[.slice al l.length cl, .int .i64 n, undef, undef, undef, undef, undef, undef, undef, undef, undef, undef, undef, undef, undef, undef, undef, undef, undef, undef, undef, undef, undef, undef, undef, undef, undef, undef, undef, undef, undef, undef], []⟩) (by kernel_rfl : R1.T.fn 36 = some ⟨32, (Try.f36.body).getD .skip, [.tmp 4]⟩) rfl ?_
  have hO0 := Own.refl s
  have Ml := Hl.small
  simp only [Try.f36, Option.getD]
  refine Ends.seq ?_
  refine Ends.region ?_
  refine W.op (v := .bool false) (fr1 := ⟨[_, _, _, _, .bool false, _, _, _, _, _, _, _, _, _, _, _, _, _, _, _, _, _, _, _, _, _, _, _, _, _, _, _], []⟩) rfl rfl rfl rfl ?_
  refine EndsOps.nil ?_
  refine Ends.seq ?_
  refine Ends.seq ?_
  refine Ends.region ?_
  refine W.op (v := .slice al l.length cl) (fr1 := ⟨[_, _, _, _, _, _, .slice al l.length cl, _, _, _, _, _, _, _, _, _, _, _, _, _, _, _, _, _, _, _, _, _, _, _, _, _], []⟩) rfl rfl rfl rfl ?_
  refine W.op (v := .int .i64 n) (fr1 := ⟨[_, _, _, _, _, _, _, .int .i64 n, _, _, _, _, _, _, _, _, _, _, _, _, _, _, _, _, _, _, _, _, _, _, _, _], []⟩) rfl rfl rfl rfl ?_
  by_cases h1 : Right l n
  · skip
    refine W.call (ar := [.slice al l.length cl, .int .i64 n]) (X := .bool true) (fr1 := ⟨[_, _, _, _, _, _, _, _, .bool true, _, _, _, _, _, _, _, _, _, _, _, _, _, _, _, _, _, _, _, _, _, _, _], []⟩) hO0 rfl rfl rfl rfl ((c35 _ _ _ _ _ _ _ _ n _ (Hl.own hO0)).mono fun v _ _ h => h.trans (congrArg Value.bool (decide_eq_true h1))) rfl ?_
    intro s2 hO3 hS4
    refine W.op (v := .bool false) (fr1 := ⟨[_, _, _, _, _, _, _, _, _, .bool false, _, _, _, _, _, _, _, _, _, _, _, _, _, _, _, _, _, _, _, _, _, _], []⟩) rfl rfl rfl rfl ?_
    refine W.op (v := .bool false) (fr1 := ⟨[_, _, _, _, _, _, _, _, _, _, .bool false, _, _, _, _, _, _, _, _, _, _, _, _, _, _, _, _, _, _, _, _, _], []⟩) rfl rfl rfl rfl ?_
    refine W.op (v := .slice al l.length cl) (fr1 := ⟨[_, _, _, _, _, _, _, _, _, _, _, .slice al l.length cl, _, _, _, _, _, _, _, _, _, _, _, _, _, _, _, _, _, _, _, _], []⟩) rfl rfl rfl rfl ?_
    by_cases h5 : 0 ≤ firstN l
    · skip
      refine W.call (ar := [.slice al l.length cl, .func (.func 76) ⟨[]⟩ ⟨[]⟩]) (X := .bool true) (fr1 := ⟨[_, _, _, _, _, _, _, _, _, _, _, _, .bool true, _, _, _, _, _, _, _, _, _, _, _, _, _, _, _, _, _, _, _], []⟩) hO3 rfl rfl rfl rfl ((c75 _ _ _ _ _ _ _ _ _ (Hl.own hO3)).mono fun v _ _ h => h.trans (congrArg Value.bool (decide_eq_true h5))) rfl ?_
      intro s6 hO7 hS8
      refine W.op (v := .bool true) (fr1 := ⟨[_, _, _, _, _, _, _, _, _, _, _, _, _, .bool true, _, _, _, _, _, _, _, _, _, _, _, _, _, _, _, _, _, _], []⟩) rfl rfl rfl rfl ?_
      refine EndsOps.nil ?_
      refine Ends.condT rfl ?_
      refine Ends.seq ?_
      refine Ends.region ?_
      refine W.op (v := .bool false) (fr1 := ⟨[_, _, _, _, .bool false, _, _, _, _, _, _, _, _, _, _, _, _, _, _, _, _, _, _, _, _, _, _, _, _, _, _, _], []⟩) rfl rfl rfl rfl ?_
      refine EndsOps.nil ?_
      refine Ends.ret ?_
      exact ⟨rfl, rfl, hO7, by
        show Value.bool false = .bool (decide (Plain l n))
        exact congrArg Value.bool (decide_eq_false fun hR => hR.2.1 h5).symm⟩
    · skip
      refine W.call (ar := [.slice al l.length cl, .func (.func 76) ⟨[]⟩ ⟨[]⟩]) (X := .bool false) (fr1 := ⟨[_, _, _, _, _, _, _, _, _, _, _, _, .bool false, _, _, _, _, _, _, _, _, _, _, _, _, _, _, _, _, _, _, _], []⟩) hO3 rfl rfl rfl rfl ((c75 _ _ _ _ _ _ _ _ _ (Hl.own hO3)).mono fun v _ _ h => h.trans (congrArg Value.bool (decide_eq_false h5))) rfl ?_
      intro s9 hO10 hS11
      refine W.op (v := .bool false) (fr1 := ⟨[_, _, _, _, _, _, _, _, _, _, _, _, _, .bool false, _, _, _, _, _, _, _, _, _, _, _, _, _, _, _, _, _, _], []⟩) rfl rfl rfl rfl ?_
      refine EndsOps.nil ?_
      refine Ends.condF rfl ?_
      refine Ends.skip ?_
      refine Ends.seq ?_
      refine Ends.seq ?_
      refine Ends.region ?_
      refine W.op (v := .int .i64 1) (fr1 := ⟨[_, _, _, _, _, .int .i64 1, _, _, _, _, _, _, _, _, _, _, _, _, _, _, _, _, _, _, _, _, _, _, _, _, _, _], []⟩) rfl rfl rfl rfl ?_
      refine EndsOps.nil ?_
      refine W.block ?_
      refine Ends.loopInv (fun d fr s1 => ∃ (i : Nat) (j4 j14 j15 j16 j17 j18 j19 j20 j21 j22 j23 j24 j25 j26 j27 j28 j29 j30 j31 : Value), fr = ⟨[.slice al l.length cl, .int .i64 n, undef, undef, j4, .int .i64 ((i : Nat) : Int), .slice al l.length cl, .int .i64 n, .bool true, .bool false, .bool false, .slice al l.length cl, .bool false, .bool false, j14, j15, j16, j17, j18, j19, j20, j21, j22, j23, j24, j25, j26, j27, j28, j29, j30, j31], []⟩ ∧ Own s s1 ∧ d = l.length - i ∧ (1 ≤ i) ∧ (Apt l i)) ?_ _ _ _ ⟨1, _, _, _, _, _, _, _, _, _, _, _, _, _, _, _, _, _, _, _, rfl, hO10, rfl, Nat.le_refl _, Apt.one l⟩
      rintro d _ s12 ⟨i, j4, j14, j15, j16, j17, j18, j19, j20, j21, j22, j23, j24, j25, j26, j27, j28, j29, j30, j31, rfl, hO13, hd14, hi, ha⟩
      refine Ends.seq ?_
      refine Ends.seq ?_
      refine Ends.region ?_
      refine W.op (v := .int .i64 ((i : Nat) : Int)) (fr1 := ⟨[_, _, _, _, _, _, _, _, _, _, _, _, _, _, .int .i64 ((i : Nat) : Int), _, _, _, _, _, _, _, _, _, _, _, _, _, _, _, _, _], []⟩) rfl rfl rfl rfl ?_
      refine W.op (v := .slice al l.length cl) (fr1 := ⟨[_, _, _, _, _, _, _, _, _, _, _, _, _, _, _, .slice al l.length cl, _, _, _, _, _, _, _, _, _, _, _, _, _, _, _, _], []⟩) rfl rfl rfl rfl ?_
      refine W.op (v := .int .i64 ((l.length : Nat) : Int)) (fr1 := ⟨[_, _, _, _, _, _, _, _, _, _, _, _, _, _, _, _, .int .i64 ((l.length : Nat) : Int), _, _, _, _, _, _, _, _, _, _, _, _, _, _, _], []⟩) rfl rfl rfl rfl ?_
      by_cases h15 : ((i : Nat) : Int) < ((l.length : Nat) : Int)
      · skip
        refine W.op (v := .bool true) (fr1 := ⟨[_, _, _, _, _, _, _, _, _, _, _, _, _, _, _, _, _, .bool true, _, _, _, _, _, _, _, _, _, _, _, _, _, _], []⟩) rfl (p_bin (ltT h15)) rfl rfl ?_
        refine EndsOps.nil ?_
        refine Ends.condT rfl ?_
        refine Ends.skip ?_
        refine Ends.seq ?_
        refine W.block ?_
        refine Ends.seq ?_
        refine Ends.drawW (bef := [0, 0, 3, 7, 15, 0, 0, 64, 224, 480, 992, 2047]) (by kernel_rfl) ?_
        refine D.op (v := .slice al l.length cl) (fr1 := ⟨[_, _, _, _, _, _, _, _, _, _, _, _, _, _, _, _, _, _, _, _, .slice al l.length cl, _, _, _, _, _, _, _, _, _, _, _], []⟩) rfl rfl rfl rfl rfl ?_
        refine D.op (v := .int .i64 ((i : Nat) : Int)) (fr1 := ⟨[_, _, _, _, _, _, _, _, _, _, _, _, _, _, _, _, _, _, _, _, _, .int .i64 ((i : Nat) : Int), _, _, _, _, _, _, _, _, _, _], []⟩) rfl rfl rfl rfl rfl ?_
        obtain ⟨e16, he17⟩ := ex_at (l := l) (i := i) (by omega)
        refine D.op (v := .pointer (some ⟨Nl, ol + i * 3, none⟩)) (fr1 := ⟨[_, _, _, _, _, _, _, _, _, _, _, _, _, _, _, _, _, _, _, _, _, _, .pointer (some ⟨Nl, ol + i * 3, none⟩), _, _, _, _, _, _, _, _, _], []⟩) rfl (p_ix (Sl.ix Hl rfl rfl he17 _)) rfl rfl rfl ?_
        refine D.op (v := .pointer (some ⟨Nl, ol + i * 3 + 0, none⟩)) (fr1 := ⟨[_, _, _, _, _, _, _, _, _, _, _, _, _, _, _, _, _, _, _, _, _, _, _, .pointer (some ⟨Nl, ol + i * 3 + 0, none⟩), _, _, _, _, _, _, _, _], []⟩) rfl rfl rfl rfl rfl ?_
        refine D.load (v := .int .i64 e16.lo) (fr1 := ⟨[_, _, _, _, _, _, _, _, _, _, _, _, _, _, _, _, _, _, _, _, _, _, _, _, .int .i64 e16.lo, _, _, _, _, _, _, _], []⟩) rfl rfl rfl (fun _ h => by cases h) (fun s1 hg => (p_load1 ⟨hg.trans ((Sl.row' (Hl.own hO13) he17)).get, ((Sl.row' (Hl.own hO13) he17)).lt⟩ rfl rfl rfl ((Hl.own hO13).at he17 rfl))) rfl ?_
        refine D.op (v := .slice al l.length cl) (fr1 := ⟨[_, _, _, _, _, _, _, _, _, _, _, _, _, _, _, _, _, _, _, _, _, _, _, _, _, .slice al l.length cl, _, _, _, _, _, _], []⟩) rfl rfl rfl rfl rfl ?_
        refine D.op (v := .int .i64 ((i : Nat) : Int)) (fr1 := ⟨[_, _, _, _, _, _, _, _, _, _, _, _, _, _, _, _, _, _, _, _, _, _, _, _, _, _, .int .i64 ((i : Nat) : Int), _, _, _, _, _], []⟩) rfl rfl rfl rfl rfl ?_
        obtain ⟨q18, hq19⟩ : ∃ q : Nat, (q : Int) = ((i : Nat) : Int) - 1 := ⟨(i - 1), by omega⟩
        refine D.op (v := .int .i64 ((q18 : Nat) : Int)) (fr1 := ⟨[_, _, _, _, _, _, _, _, _, _, _, _, _, _, _, _, _, _, _, _, _, _, _, _, _, _, _, .int .i64 ((q18 : Nat) : Int), _, _, _, _], []⟩) rfl (p_bin (subI (by omega) (by omega) (by omega))) rfl rfl rfl ?_
        obtain ⟨e20, he21⟩ := ex_at (l := l) (i := q18) (by omega)
        refine D.op (v := .pointer (some ⟨Nl, ol + q18 * 3, none⟩)) (fr1 := ⟨[_, _, _, _, _, _, _, _, _, _, _, _, _, _, _, _, _, _, _, _, _, _, _, _, _, _, _, _, .pointer (some ⟨Nl, ol + q18 * 3, none⟩), _, _, _], []⟩) rfl (p_ix (Sl.ix Hl rfl rfl he21 _)) rfl rfl rfl ?_
        refine D.op (v := .pointer (some ⟨Nl, ol + q18 * 3 + 1, none⟩)) (fr1 := ⟨[_, _, _, _, _, _, _, _, _, _, _, _, _, _, _, _, _, _, _, _, _, _, _, _, _, _, _, _, _, .pointer (some ⟨Nl, ol + q18 * 3 + 1, none⟩), _, _], []⟩) rfl rfl rfl rfl rfl ?_
        refine D.load (v := .int .i64 e20.hi) (fr1 := ⟨[_, _, _, _, _, _, _, _, _, _, _, _, _, _, _, _, _, _, _, _, _, _, _, _, _, _, _, _, _, _, .int .i64 e20.hi, _], []⟩) rfl rfl rfl (fun _ h => by cases h) (fun s1 hg => (p_load1 ⟨hg.trans ((Sl.row' (Hl.own hO13) he21)).get, ((Sl.row' (Hl.own hO13) he21)).lt⟩ rfl rfl rfl ((Hl.own hO13).at he21 rfl))) rfl ?_
        by_cases h22 : e16.lo = e20.hi
        · skip
          refine D.op (v := .bool true) (fr1 := ⟨[_, _, _, _, _, _, _, _, _, _, _, _, _, _, _, _, _, _, _, _, _, _, _, _, _, _, _, _, _, _, _, .bool true], []⟩) rfl (p_bin (eqT h22)) rfl rfl rfl ?_
          refine D.nil ?_
          refine Ends.condT rfl ?_
          refine Ends.seq ?_
          refine Ends.region ?_
          refine W.op (v := .bool false) (fr1 := ⟨[_, _, _, _, .bool false, _, _, _, _, _, _, _, _, _, _, _, _, _, _, _, _, _, _, _, _, _, _, _, _, _, _, _], []⟩) rfl rfl rfl rfl ?_
          refine EndsOps.nil ?_
          refine Ends.ret ?_
          exact ⟨rfl, rfl, hO13, by
            show Value.bool false = .bool (decide (Plain l n))
            exact congrArg Value.bool (decide_eq_false fun hR => hR.2.2 i (by omega) _ _ he17 (by omega) (by rw [show i - 1 = q18 by omega]; exact he21) h22).symm⟩
        · skip
          refine D.op (v := .bool false) (fr1 := ⟨[_, _, _, _, _, _, _, _, _, _, _, _, _, _, _, _, _, _, _, _, _, _, _, _, _, _, _, _, _, _, _, .bool false], []⟩) rfl (p_bin (eqF h22)) rfl rfl rfl ?_
          refine D.nil ?_
          refine Ends.condF rfl ?_
          refine Ends.skip ?_
          refine Ends.region ?_
          refine W.op (v := .int .i64 ((i : Nat) : Int)) (fr1 := ⟨[_, _, _, _, _, _, _, _, _, _, _, _, _, _, _, _, _, _, .int .i64 ((i : Nat) : Int), _, _, _, _, _, _, _, _, _, _, _, _, _], []⟩) rfl rfl rfl rfl ?_
          refine W.op (v := .int .i64 ((i + 1 : Nat) : Int)) (fr1 := ⟨[_, _, _, _, _, _, _, _, _, _, _, _, _, _, _, _, _, _, _, .int .i64 ((i + 1 : Nat) : Int), _, _, _, _, _, _, _, _, _, _, _, _], []⟩) rfl (p_bin (addI (by omega) (by omega) (by omega))) rfl rfl ?_
          refine W.op (v := .int .i64 ((i + 1 : Nat) : Int)) (fr1 := ⟨[_, _, _, _, _, .int .i64 ((i + 1 : Nat) : Int), _, _, _, _, _, _, _, _, _, _, _, _, _, _, _, _, _, _, _, _, _, _, _, _, _, _], []⟩) rfl rfl rfl rfl ?_
          refine EndsOps.nil ?_
          exact ⟨_, (by omega), i + 1, _, _, _, _, _, _, _, _, _, _, _, _, _, _, _, _, _, _, _, rfl, hO13, rfl, by omega, Apt.step ha he17 he21 (by omega) h22⟩
      · skip
        refine W.op (v := .bool false) (fr1 := ⟨[_, _, _, _, _, _, _, _, _, _, _, _, _, _, _, _, _, .bool false, _, _, _, _, _, _, _, _, _, _, _, _, _, _], []⟩) rfl (p_bin (ltF h15)) rfl rfl ?_
        refine EndsOps.nil ?_
        refine Ends.condF rfl ?_
        refine Ends.exit ?_
        refine W.outT rfl ?_
        refine Ends.seq ?_
        refine Ends.region ?_
        refine W.op (v := .bool true) (fr1 := ⟨[_, _, _, _, .bool true, _, _, _, _, _, _, _, _, _, _, _, _, _, _, _, _, _, _, _, _, _, _, _, _, _, _, _], []⟩) rfl rfl rfl rfl ?_
        refine EndsOps.nil ?_
        refine Ends.ret ?_
        exact ⟨rfl, rfl, hO13, by
          show Value.bool true = .bool (decide (Plain l n))
          exact congrArg Value.bool (decide_eq_true ⟨h1, h5, fun k hk => ha k (by omega)⟩).symm⟩
  · skip
    refine W.call (ar := [.slice al l.length cl, .int .i64 n]) (X := .bool false) (fr1 := ⟨[_, _, _, _, _, _, _, _, .bool false, _, _, _, _, _, _, _, _, _, _, _, _, _, _, _, _, _, _, _, _, _, _, _], []⟩) hO0 rfl rfl rfl rfl ((c35 _ _ _ _ _ _ _ _ n _ (Hl.own hO0)).mono fun v _ _ h => h.trans (congrArg Value.bool (decide_eq_false h1))) rfl ?_
    intro s23 hO24 hS25
    refine W.op (v := .bool true) (fr1 := ⟨[_, _, _, _, _, _, _, _, _, .bool true, _, _, _, _, _, _, _, _, _, _, _, _, _, _, _, _, _, _, _, _, _, _], []⟩) rfl rfl rfl rfl ?_
    refine W.op (v := .bool true) (fr1 := ⟨[_, _, _, _, _, _, _, _, _, _, .bool true, _, _, _, _, _, _, _, _, _, _, _, _, _, _, _, _, _, _, _, _, _], []⟩) rfl rfl rfl rfl ?_
    refine W.skip (fr1 := ⟨[_, _, _, _, _, _, _, _, _, _, _, undef, _, _, _, _, _, _, _, _, _, _, _, _, _, _, _, _, _, _, _, _], []⟩) rfl rfl ?_
    refine W.skip (fr1 := ⟨[_, _, _, _, _, _, _, _, _, _, _, _, undef, _, _, _, _, _, _, _, _, _, _, _, _, _, _, _, _, _, _, _], []⟩) rfl rfl ?_
    refine W.op (v := .bool true) (fr1 := ⟨[_, _, _, _, _, _, _, _, _, _, _, _, _, .bool true, _, _, _, _, _, _, _, _, _, _, _, _, _, _, _, _, _, _], []⟩) rfl rfl rfl rfl ?_
    refine EndsOps.nil ?_
    refine Ends.condT rfl ?_
    refine Ends.seq ?_
    refine Ends.region ?_
    refine W.op (v := .bool false) (fr1 := ⟨[_, _, _, _, .bool false, _, _, _, _, _, _, _, _, _, _, _, _, _, _, _, _, _, _, _, _, _, _, _, _, _, _, _], []⟩) rfl rfl rfl rfl ?_
    refine EndsOps.nil ?_
    refine Ends.ret ?_
    exact ⟨rfl, rfl, hO24, by
      show Value.bool false = .bool (decide (Plain l n))
      exact congrArg Value.bool (decide_eq_false fun hR => h1 hR.1).symm⟩
end Go.Ev.R1
