/-
  EV: contracts of the first seat's functions.
-/
import Derived.Test.YtelpkdjibjddlaaEvDrawn
import Derived.Test.YtelpkdjibjddlaaEvR1
set_option linter.unusedSimpArgs false
set_option linter.unusedVariables false
namespace Go.Ev.R1
open Go Go.Ev Go.Proofs
set_option maxRecDepth 10000
theorem zero97 : R1.T.zero 97 = some (.agg ⟨[.int .i64 0,.int .i64 0,.string ByteArray.empty]⟩) := by kernel_rfl
theorem c73 (e : Ed) (n : Int) (s : St) : EndsPure R1.T 73 [.agg ⟨[.int .i64 e.lo,.int .i64 e.hi,.string e.tx]⟩,.int .i64 n] s (fun v _ _ => v = .bool (decide (Within e n))) := by
  refine EndsPure.of (rs := [4]) (fr0 := ⟨[.agg ⟨[.int .i64 e.lo,.int .i64 e.hi,.string e.tx]⟩,.int .i64 n,undef,undef,undef,undef,undef,undef,undef,undef,undef,undef,undef,undef,undef,undef,undef,undef,undef,undef,undef],[]⟩) (by kernel_rfl : R1.T.fn 73 = some ⟨21,(Try.f73.body).getD .skip,[.tmp 4]⟩) rfl ?_
  have hO0 := Own.refl s
  simp only [Try.f73,Option.getD]
  refine Ends.seq ?_
  refine Ends.region ?_
  obtain ⟨N1,hN2⟩ : ∃ N,N = s.next := ⟨_,rfl⟩
  refine W.new (N := N1) (vs := [.int .i64 e.lo,.int .i64 e.hi,.string e.tx]) (fr1 := ⟨[_,_,.pointer (some ⟨N1,0,none⟩),_,_,_,_,_,_,_,_,_,_,_,_,_,_,_,_,_,_],[]⟩) hO0 hN2 rfl (p_box rfl) rfl rfl ?_
  intro s3 hO4 hS5 r6 hB7
  refine W.op (v := .bool false) (fr1 := ⟨[_,_,_,_,.bool false,_,_,_,_,_,_,_,_,_,_,_,_,_,_,_,_],[]⟩) rfl rfl rfl rfl ?_
  refine EndsOps.nil ?_
  refine Ends.seq ?_
  refine Ends.region ?_
  refine W.op (v := .pointer (some ⟨N1,0,none⟩)) (fr1 := ⟨[_,_,_,_,_,.pointer (some ⟨N1,0,none⟩),_,_,_,_,_,_,_,_,_,_,_,_,_,_,_],[]⟩) rfl rfl rfl rfl ?_
  refine W.op (v := .int .i64 e.lo) (fr1 := ⟨[_,_,_,_,_,_,.int .i64 e.lo,_,_,_,_,_,_,_,_,_,_,_,_,_,_],[]⟩) rfl (p_load1 r6 rfl rfl rfl rfl) rfl rfl ?_
  by_cases h8 : (0 : Int) ≤ e.lo
  · skip
    refine W.op (v := .bool true) (fr1 := ⟨[_,_,_,_,_,_,_,.bool true,_,_,_,_,_,_,_,_,_,_,_,_,_],[]⟩) rfl (p_bin (geT h8)) rfl rfl ?_
    refine W.op (v := .bool true) (fr1 := ⟨[_,_,_,_,_,_,_,_,.bool true,_,_,_,_,_,_,_,_,_,_,_,_],[]⟩) rfl rfl rfl rfl ?_
    refine W.op (v := .pointer (some ⟨N1,0,none⟩)) (fr1 := ⟨[_,_,_,_,_,_,_,_,_,.pointer (some ⟨N1,0,none⟩),_,_,_,_,_,_,_,_,_,_,_],[]⟩) rfl rfl rfl rfl ?_
    refine W.op (v := .int .i64 e.lo) (fr1 := ⟨[_,_,_,_,_,_,_,_,_,_,.int .i64 e.lo,_,_,_,_,_,_,_,_,_,_],[]⟩) rfl (p_load1 r6 rfl rfl rfl rfl) rfl rfl ?_
    refine W.op (v := .pointer (some ⟨N1,1,none⟩)) (fr1 := ⟨[_,_,_,_,_,_,_,_,_,_,_,.pointer (some ⟨N1,1,none⟩),_,_,_,_,_,_,_,_,_],[]⟩) rfl rfl rfl rfl ?_
    refine W.op (v := .int .i64 e.hi) (fr1 := ⟨[_,_,_,_,_,_,_,_,_,_,_,_,.int .i64 e.hi,_,_,_,_,_,_,_,_],[]⟩) rfl (p_load1 r6 rfl rfl rfl rfl) rfl rfl ?_
    by_cases h9 : e.lo ≤ e.hi
    · skip
      refine W.op (v := .bool true) (fr1 := ⟨[_,_,_,_,_,_,_,_,_,_,_,_,_,.bool true,_,_,_,_,_,_,_],[]⟩) rfl (p_bin (leT h9)) rfl rfl ?_
      refine W.op (v := .bool true) (fr1 := ⟨[_,_,_,_,_,_,_,_,_,_,_,_,_,_,.bool true,_,_,_,_,_,_],[]⟩) rfl rfl rfl rfl ?_
      refine W.op (v := .bool true) (fr1 := ⟨[_,_,_,_,_,_,_,_,_,_,_,_,_,_,_,.bool true,_,_,_,_,_],[]⟩) rfl rfl rfl rfl ?_
      refine W.op (v := .pointer (some ⟨N1,1,none⟩)) (fr1 := ⟨[_,_,_,_,_,_,_,_,_,_,_,_,_,_,_,_,.pointer (some ⟨N1,1,none⟩),_,_,_,_],[]⟩) rfl rfl rfl rfl ?_
      refine W.op (v := .int .i64 e.hi) (fr1 := ⟨[_,_,_,_,_,_,_,_,_,_,_,_,_,_,_,_,_,.int .i64 e.hi,_,_,_],[]⟩) rfl (p_load1 r6 rfl rfl rfl rfl) rfl rfl ?_
      refine W.op (v := .int .i64 n) (fr1 := ⟨[_,_,_,_,_,_,_,_,_,_,_,_,_,_,_,_,_,_,.int .i64 n,_,_],[]⟩) rfl rfl rfl rfl ?_
      by_cases h10 : e.hi ≤ n
      · skip
        refine W.op (v := .bool true) (fr1 := ⟨[_,_,_,_,_,_,_,_,_,_,_,_,_,_,_,_,_,_,_,.bool true,_],[]⟩) rfl (p_bin (leT h10)) rfl rfl ?_
        refine W.op (v := .bool true) (fr1 := ⟨[_,_,_,_,_,_,_,_,_,_,_,_,_,_,_,_,_,_,_,_,.bool true],[]⟩) rfl rfl rfl rfl ?_
        refine W.op (v := .bool true) (fr1 := ⟨[_,_,_,_,.bool true,_,_,_,_,_,_,_,_,_,_,_,_,_,_,_,_],[]⟩) rfl rfl rfl rfl ?_
        refine EndsOps.nil ?_
        refine Ends.ret ?_
        exact ⟨rfl,rfl,hO4,by
          show Value.bool true = .bool (decide (Within e n))
          simp [Within, *]⟩
      · skip
        refine W.op (v := .bool false) (fr1 := ⟨[_,_,_,_,_,_,_,_,_,_,_,_,_,_,_,_,_,_,_,.bool false,_],[]⟩) rfl (p_bin (leF h10)) rfl rfl ?_
        refine W.op (v := .bool false) (fr1 := ⟨[_,_,_,_,_,_,_,_,_,_,_,_,_,_,_,_,_,_,_,_,.bool false],[]⟩) rfl rfl rfl rfl ?_
        refine W.op (v := .bool false) (fr1 := ⟨[_,_,_,_,.bool false,_,_,_,_,_,_,_,_,_,_,_,_,_,_,_,_],[]⟩) rfl rfl rfl rfl ?_
        refine EndsOps.nil ?_
        refine Ends.ret ?_
        exact ⟨rfl,rfl,hO4,by
          show Value.bool false = .bool (decide (Within e n))
          simp [Within, *]⟩
    · skip
      refine W.op (v := .bool false) (fr1 := ⟨[_,_,_,_,_,_,_,_,_,_,_,_,_,.bool false,_,_,_,_,_,_,_],[]⟩) rfl (p_bin (leF h9)) rfl rfl ?_
      refine W.op (v := .bool false) (fr1 := ⟨[_,_,_,_,_,_,_,_,_,_,_,_,_,_,.bool false,_,_,_,_,_,_],[]⟩) rfl rfl rfl rfl ?_
      refine W.op (v := .bool false) (fr1 := ⟨[_,_,_,_,_,_,_,_,_,_,_,_,_,_,_,.bool false,_,_,_,_,_],[]⟩) rfl rfl rfl rfl ?_
      refine W.skip (fr1 := ⟨[_,_,_,_,_,_,_,_,_,_,_,_,_,_,_,_,undef,_,_,_,_],[]⟩) rfl rfl ?_
      refine W.skip (fr1 := ⟨[_,_,_,_,_,_,_,_,_,_,_,_,_,_,_,_,_,undef,_,_,_],[]⟩) rfl rfl ?_
      refine W.skip (fr1 := ⟨[_,_,_,_,_,_,_,_,_,_,_,_,_,_,_,_,_,_,undef,_,_],[]⟩) rfl rfl ?_
      refine W.skip (fr1 := ⟨[_,_,_,_,_,_,_,_,_,_,_,_,_,_,_,_,_,_,_,undef,_],[]⟩) rfl rfl ?_
      refine W.op (v := .bool false) (fr1 := ⟨[_,_,_,_,_,_,_,_,_,_,_,_,_,_,_,_,_,_,_,_,.bool false],[]⟩) rfl rfl rfl rfl ?_
      refine W.op (v := .bool false) (fr1 := ⟨[_,_,_,_,.bool false,_,_,_,_,_,_,_,_,_,_,_,_,_,_,_,_],[]⟩) rfl rfl rfl rfl ?_
      refine EndsOps.nil ?_
      refine Ends.ret ?_
      exact ⟨rfl,rfl,hO4,by
        show Value.bool false = .bool (decide (Within e n))
        simp [Within, *]⟩
  · skip
    refine W.op (v := .bool false) (fr1 := ⟨[_,_,_,_,_,_,_,.bool false,_,_,_,_,_,_,_,_,_,_,_,_,_],[]⟩) rfl (p_bin (geF h8)) rfl rfl ?_
    refine W.op (v := .bool false) (fr1 := ⟨[_,_,_,_,_,_,_,_,.bool false,_,_,_,_,_,_,_,_,_,_,_,_],[]⟩) rfl rfl rfl rfl ?_
    refine W.skip (fr1 := ⟨[_,_,_,_,_,_,_,_,_,undef,_,_,_,_,_,_,_,_,_,_,_],[]⟩) rfl rfl ?_
    refine W.skip (fr1 := ⟨[_,_,_,_,_,_,_,_,_,_,undef,_,_,_,_,_,_,_,_,_,_],[]⟩) rfl rfl ?_
    refine W.skip (fr1 := ⟨[_,_,_,_,_,_,_,_,_,_,_,undef,_,_,_,_,_,_,_,_,_],[]⟩) rfl rfl ?_
    refine W.skip (fr1 := ⟨[_,_,_,_,_,_,_,_,_,_,_,_,undef,_,_,_,_,_,_,_,_],[]⟩) rfl rfl ?_
    refine W.skip (fr1 := ⟨[_,_,_,_,_,_,_,_,_,_,_,_,_,undef,_,_,_,_,_,_,_],[]⟩) rfl rfl ?_
    refine W.op (v := .bool false) (fr1 := ⟨[_,_,_,_,_,_,_,_,_,_,_,_,_,_,.bool false,_,_,_,_,_,_],[]⟩) rfl rfl rfl rfl ?_
    refine W.op (v := .bool false) (fr1 := ⟨[_,_,_,_,_,_,_,_,_,_,_,_,_,_,_,.bool false,_,_,_,_,_],[]⟩) rfl rfl rfl rfl ?_
    refine W.skip (fr1 := ⟨[_,_,_,_,_,_,_,_,_,_,_,_,_,_,_,_,undef,_,_,_,_],[]⟩) rfl rfl ?_
    refine W.skip (fr1 := ⟨[_,_,_,_,_,_,_,_,_,_,_,_,_,_,_,_,_,undef,_,_,_],[]⟩) rfl rfl ?_
    refine W.skip (fr1 := ⟨[_,_,_,_,_,_,_,_,_,_,_,_,_,_,_,_,_,_,undef,_,_],[]⟩) rfl rfl ?_
    refine W.skip (fr1 := ⟨[_,_,_,_,_,_,_,_,_,_,_,_,_,_,_,_,_,_,_,undef,_],[]⟩) rfl rfl ?_
    refine W.op (v := .bool false) (fr1 := ⟨[_,_,_,_,_,_,_,_,_,_,_,_,_,_,_,_,_,_,_,_,.bool false],[]⟩) rfl rfl rfl rfl ?_
    refine W.op (v := .bool false) (fr1 := ⟨[_,_,_,_,.bool false,_,_,_,_,_,_,_,_,_,_,_,_,_,_,_,_],[]⟩) rfl rfl rfl rfl ?_
    refine EndsOps.nil ?_
    refine Ends.ret ?_
    exact ⟨rfl,rfl,hO4,by
      show Value.bool false = .bool (decide (Within e n))
      simp [Within, *]⟩
theorem c74 (a e : Ed) (s : St) : EndsPure R1.T 74 [.agg ⟨[.int .i64 a.lo,.int .i64 a.hi,.string a.tx]⟩,.agg ⟨[.int .i64 e.lo,.int .i64 e.hi,.string e.tx]⟩] s (fun v _ _ => v = .bool (decide (Behind a e))) := by
  refine EndsPure.of (rs := [4]) (fr0 := ⟨[.agg ⟨[.int .i64 a.lo,.int .i64 a.hi,.string a.tx]⟩,.agg ⟨[.int .i64 e.lo,.int .i64 e.hi,.string e.tx]⟩,undef,undef,undef,undef,undef,undef,undef,undef,undef,undef,undef,undef,undef,undef,undef],[]⟩) (by kernel_rfl : R1.T.fn 74 = some ⟨17,(Try.f74.body).getD .skip,[.tmp 4]⟩) rfl ?_
  have hO0 := Own.refl s
  simp only [Try.f74,Option.getD]
  refine Ends.seq ?_
  refine Ends.region ?_
  obtain ⟨N1,hN2⟩ : ∃ N,N = s.next := ⟨_,rfl⟩
  refine W.new (N := N1) (vs := [.int .i64 a.lo,.int .i64 a.hi,.string a.tx]) (fr1 := ⟨[_,_,.pointer (some ⟨N1,0,none⟩),_,_,_,_,_,_,_,_,_,_,_,_,_,_],[]⟩) hO0 hN2 rfl (p_box rfl) rfl rfl ?_
  intro s3 hO4 hS5 r6 hB7
  obtain ⟨N8,hN9⟩ : ∃ N,N = s3.next := ⟨_,rfl⟩
  refine W.new (N := N8) (vs := [.int .i64 e.lo,.int .i64 e.hi,.string e.tx]) (fr1 := ⟨[_,_,_,.pointer (some ⟨N8,0,none⟩),_,_,_,_,_,_,_,_,_,_,_,_,_],[]⟩) hO4 hN9 rfl (p_box rfl) rfl rfl ?_
  intro s10 hO11 hS12 r13 hB14
  have r15 := r6.own hS12
  refine W.op (v := .bool false) (fr1 := ⟨[_,_,_,_,.bool false,_,_,_,_,_,_,_,_,_,_,_,_],[]⟩) rfl rfl rfl rfl ?_
  refine EndsOps.nil ?_
  refine Ends.seq ?_
  refine Ends.region ?_
  refine W.op (v := .pointer (some ⟨N8,0,none⟩)) (fr1 := ⟨[_,_,_,_,_,.pointer (some ⟨N8,0,none⟩),_,_,_,_,_,_,_,_,_,_,_],[]⟩) rfl rfl rfl rfl ?_
  refine W.op (v := .int .i64 e.lo) (fr1 := ⟨[_,_,_,_,_,_,.int .i64 e.lo,_,_,_,_,_,_,_,_,_,_],[]⟩) rfl (p_load1 r13 rfl rfl rfl rfl) rfl rfl ?_
  refine W.op (v := .pointer (some ⟨N1,1,none⟩)) (fr1 := ⟨[_,_,_,_,_,_,_,.pointer (some ⟨N1,1,none⟩),_,_,_,_,_,_,_,_,_],[]⟩) rfl rfl rfl rfl ?_
  refine W.op (v := .int .i64 a.hi) (fr1 := ⟨[_,_,_,_,_,_,_,_,.int .i64 a.hi,_,_,_,_,_,_,_,_],[]⟩) rfl (p_load1 r15 rfl rfl rfl rfl) rfl rfl ?_
  by_cases h16 : a.hi ≤ e.lo
  · skip
    refine W.op (v := .bool true) (fr1 := ⟨[_,_,_,_,_,_,_,_,_,.bool true,_,_,_,_,_,_,_],[]⟩) rfl (p_bin (geT h16)) rfl rfl ?_
    refine W.op (v := .bool true) (fr1 := ⟨[_,_,_,_,_,_,_,_,_,_,.bool true,_,_,_,_,_,_],[]⟩) rfl rfl rfl rfl ?_
    refine W.op (v := .pointer (some ⟨N8,0,none⟩)) (fr1 := ⟨[_,_,_,_,_,_,_,_,_,_,_,.pointer (some ⟨N8,0,none⟩),_,_,_,_,_],[]⟩) rfl rfl rfl rfl ?_
    refine W.op (v := .int .i64 e.lo) (fr1 := ⟨[_,_,_,_,_,_,_,_,_,_,_,_,.int .i64 e.lo,_,_,_,_],[]⟩) rfl (p_load1 r13 rfl rfl rfl rfl) rfl rfl ?_
    refine W.op (v := .pointer (some ⟨N1,0,none⟩)) (fr1 := ⟨[_,_,_,_,_,_,_,_,_,_,_,_,_,.pointer (some ⟨N1,0,none⟩),_,_,_],[]⟩) rfl rfl rfl rfl ?_
    refine W.op (v := .int .i64 a.lo) (fr1 := ⟨[_,_,_,_,_,_,_,_,_,_,_,_,_,_,.int .i64 a.lo,_,_],[]⟩) rfl (p_load1 r15 rfl rfl rfl rfl) rfl rfl ?_
    by_cases h17 : a.lo < e.lo
    · skip
      refine W.op (v := .bool true) (fr1 := ⟨[_,_,_,_,_,_,_,_,_,_,_,_,_,_,_,.bool true,_],[]⟩) rfl (p_bin (gtT h17)) rfl rfl ?_
      refine W.op (v := .bool true) (fr1 := ⟨[_,_,_,_,_,_,_,_,_,_,_,_,_,_,_,_,.bool true],[]⟩) rfl rfl rfl rfl ?_
      refine W.op (v := .bool true) (fr1 := ⟨[_,_,_,_,.bool true,_,_,_,_,_,_,_,_,_,_,_,_],[]⟩) rfl rfl rfl rfl ?_
      refine EndsOps.nil ?_
      refine Ends.ret ?_
      exact ⟨rfl,rfl,hO11,by
        show Value.bool true = .bool (decide (Behind a e))
        simp [Behind, *]⟩
    · skip
      refine W.op (v := .bool false) (fr1 := ⟨[_,_,_,_,_,_,_,_,_,_,_,_,_,_,_,.bool false,_],[]⟩) rfl (p_bin (gtF h17)) rfl rfl ?_
      refine W.op (v := .bool false) (fr1 := ⟨[_,_,_,_,_,_,_,_,_,_,_,_,_,_,_,_,.bool false],[]⟩) rfl rfl rfl rfl ?_
      refine W.op (v := .bool false) (fr1 := ⟨[_,_,_,_,.bool false,_,_,_,_,_,_,_,_,_,_,_,_],[]⟩) rfl rfl rfl rfl ?_
      refine EndsOps.nil ?_
      refine Ends.ret ?_
      exact ⟨rfl,rfl,hO11,by
        show Value.bool false = .bool (decide (Behind a e))
        simp [Behind, *]⟩
  · skip
    refine W.op (v := .bool false) (fr1 := ⟨[_,_,_,_,_,_,_,_,_,.bool false,_,_,_,_,_,_,_],[]⟩) rfl (p_bin (geF h16)) rfl rfl ?_
    refine W.op (v := .bool false) (fr1 := ⟨[_,_,_,_,_,_,_,_,_,_,.bool false,_,_,_,_,_,_],[]⟩) rfl rfl rfl rfl ?_
    refine W.skip (fr1 := ⟨[_,_,_,_,_,_,_,_,_,_,_,undef,_,_,_,_,_],[]⟩) rfl rfl ?_
    refine W.skip (fr1 := ⟨[_,_,_,_,_,_,_,_,_,_,_,_,undef,_,_,_,_],[]⟩) rfl rfl ?_
    refine W.skip (fr1 := ⟨[_,_,_,_,_,_,_,_,_,_,_,_,_,undef,_,_,_],[]⟩) rfl rfl ?_
    refine W.skip (fr1 := ⟨[_,_,_,_,_,_,_,_,_,_,_,_,_,_,undef,_,_],[]⟩) rfl rfl ?_
    refine W.skip (fr1 := ⟨[_,_,_,_,_,_,_,_,_,_,_,_,_,_,_,undef,_],[]⟩) rfl rfl ?_
    refine W.op (v := .bool false) (fr1 := ⟨[_,_,_,_,_,_,_,_,_,_,_,_,_,_,_,_,.bool false],[]⟩) rfl rfl rfl rfl ?_
    refine W.op (v := .bool false) (fr1 := ⟨[_,_,_,_,.bool false,_,_,_,_,_,_,_,_,_,_,_,_],[]⟩) rfl rfl rfl rfl ?_
    refine EndsOps.nil ?_
    refine Ends.ret ?_
    exact ⟨rfl,rfl,hO11,by
      show Value.bool false = .bool (decide (Behind a e))
      simp [Behind, *]⟩
theorem c35 (al : Option Addr) (l : List Ed) (cl Nl ol : Nat) (vl : List Value) (yl zl : Nat) (n : Int) (s : St) (Hl : Sl Ed.cells 3 s.t s.next al l Nl ol vl yl zl)  : EndsPure R1.T 35 [.slice al l.length cl,.int .i64 n] s (fun v _ _ => v = .bool (decide (Right l n))) := by
  refine EndsPure.of (rs := [4]) (fr0 := ⟨[.slice al l.length cl,.int .i64 n,undef,undef,undef,undef,undef,undef,undef,undef,undef,undef,undef,undef,undef,undef,undef,undef,undef,undef,undef,undef,undef,undef,undef,undef,undef,undef,undef,undef,undef,undef,undef,undef,undef],[]⟩) (by kernel_rfl : R1.T.fn 35 = some ⟨35,(Try.f35.body).getD .skip,[.tmp 4]⟩) rfl ?_
  have hO0 := Own.refl s
  have Ml := Hl.small
  simp only [Try.f35,Option.getD]
  refine Ends.seq ?_
  refine Ends.region ?_
  refine W.op (v := .bool false) (fr1 := ⟨[_,_,_,_,.bool false,_,_,_,_,_,_,_,_,_,_,_,_,_,_,_,_,_,_,_,_,_,_,_,_,_,_,_,_,_,_],[]⟩) rfl rfl rfl rfl ?_
  refine EndsOps.nil ?_
  refine Ends.seq ?_
  refine Ends.seq ?_
  refine Ends.region ?_
  refine W.op (v := .slice al l.length cl) (fr1 := ⟨[_,_,_,_,_,_,_,.slice al l.length cl,_,_,_,_,_,_,_,_,_,_,_,_,_,_,_,_,_,_,_,_,_,_,_,_,_,_,_],[]⟩) rfl rfl rfl rfl ?_
  refine W.op (v := .int .i64 ((l.length : Nat) : Int)) (fr1 := ⟨[_,_,_,_,_,_,_,_,.int .i64 ((l.length : Nat) : Int),_,_,_,_,_,_,_,_,_,_,_,_,_,_,_,_,_,_,_,_,_,_,_,_,_,_],[]⟩) rfl rfl rfl rfl ?_
  refine W.op (v := .int .i64 0) (fr1 := ⟨[_,_,_,_,_,_,_,_,_,.int .i64 0,_,_,_,_,_,_,_,_,_,_,_,_,_,_,_,_,_,_,_,_,_,_,_,_,_],[]⟩) rfl rfl rfl rfl ?_
  refine EndsOps.nil ?_
  refine W.block ?_
  refine Ends.loopInv (fun d fr s1 => ∃ (i : Nat) (j4 j5 j6 j10 j11 j12 j13 j14 j15 j16 j17 j18 j19 j20 j21 j22 j23 j24 j25 j26 j27 j28 j29 j30 j31 j32 : Value),fr = ⟨[.slice al l.length cl,.int .i64 n,undef,undef,j4,j5,j6,.slice al l.length cl,.int .i64 ((l.length : Nat) : Int),.int .i64 ((i : Nat) : Int),j10,j11,j12,j13,j14,j15,j16,j17,j18,j19,j20,j21,j22,j23,j24,j25,j26,j27,j28,j29,j30,j31,j32,undef,undef],[]⟩ ∧ Own s s1 ∧ d = l.length - i ∧ (i ≤ l.length) ∧ (Ok l n i)) ?_ _ _ _ ⟨0,_,_,_,_,_,_,_,_,_,_,_,_,_,_,_,_,_,_,_,_,_,_,_,_,_,_,rfl,hO0,rfl,Nat.zero_le _,(fun k hk => absurd hk (Nat.not_lt_zero k))⟩
  rintro d _ s1 ⟨i,j4,j5,j6,j10,j11,j12,j13,j14,j15,j16,j17,j18,j19,j20,j21,j22,j23,j24,j25,j26,j27,j28,j29,j30,j31,j32,rfl,hO2,hd3,hi,hok⟩
  refine Ends.seq ?_
  refine Ends.region ?_
  by_cases h4 : ((i : Nat) : Int) < ((l.length : Nat) : Int)
  · skip
    refine W.op (v := .bool true) (fr1 := ⟨[_,_,_,_,_,_,_,_,_,_,.bool true,_,_,_,_,_,_,_,_,_,_,_,_,_,_,_,_,_,_,_,_,_,_,_,_],[]⟩) rfl (p_bin (ltT h4)) rfl rfl ?_
    refine EndsOps.nil ?_
    refine Ends.seq ?_
    refine Ends.condT rfl ?_
    refine Ends.skip ?_
    refine Ends.seq ?_
    refine W.block ?_
    refine Ends.seq ?_
    refine Ends.region ?_
    refine W.op (v := .int .i64 ((i : Nat) : Int)) (fr1 := ⟨[_,_,_,_,_,_,_,_,_,_,_,.int .i64 ((i : Nat) : Int),_,_,_,_,_,_,_,_,_,_,_,_,_,_,_,_,_,_,_,_,_,_,_],[]⟩) rfl rfl rfl rfl ?_
    obtain ⟨e5,he6⟩ := ex_at (l := l) (i := i) (by omega)
    refine W.op (v := .pointer (some ⟨Nl,ol + i * 3,none⟩)) (fr1 := ⟨[_,_,_,_,_,_,_,_,_,_,_,_,.pointer (some ⟨Nl,ol + i * 3,none⟩),_,_,_,_,_,_,_,_,_,_,_,_,_,_,_,_,_,_,_,_,_,_],[]⟩) rfl (p_ix (Sl.ix Hl rfl rfl he6 _)) rfl rfl ?_
    refine W.op (v := .agg ⟨[.int .i64 e5.lo,.int .i64 e5.hi,.string e5.tx]⟩) (fr1 := ⟨[_,_,_,_,_,_,_,_,_,_,_,_,_,.agg ⟨[.int .i64 e5.lo,.int .i64 e5.hi,.string e5.tx]⟩,_,_,_,_,_,_,_,_,_,_,_,_,_,_,_,_,_,_,_,_,_],[]⟩) rfl (p_loadA (Sl.row' (Hl.own hO2) he6) rfl rfl rfl rfl ((Hl.own hO2).get _ _ he6)) rfl rfl ?_
    obtain ⟨N7,hN8⟩ : ∃ N,N = s1.next := ⟨_,rfl⟩
    refine W.new (N := N7) (vs := [.int .i64 0,.int .i64 0,.string ByteArray.empty]) (fr1 := ⟨[_,_,_,_,_,_,.pointer (some ⟨N7,0,none⟩),_,_,_,_,_,_,_,_,_,_,_,_,_,_,_,_,_,_,_,_,_,_,_,_,_,_,_,_],[]⟩) hO2 hN8 rfl (p_alloc zero97 rfl) rfl rfl ?_
    intro s9 hO10 hS11 r12 hB13
    refine W.op (v := .int .i64 ((i : Nat) : Int)) (fr1 := ⟨[_,_,_,_,_,.int .i64 ((i : Nat) : Int),_,_,_,_,_,_,_,_,_,_,_,_,_,_,_,_,_,_,_,_,_,_,_,_,_,_,_,_,_],[]⟩) rfl rfl rfl rfl ?_
    refine W.store2 (cs := [.int .i64 e5.lo,.int .i64 e5.hi,.string e5.tx]) (vs' := [.int .i64 e5.lo,.int .i64 e5.hi,.string e5.tx]) (fr1 := ⟨[_,_,_,_,_,_,_,_,_,_,_,_,_,_,_,_,_,_,_,_,_,_,_,_,_,_,_,_,_,_,_,_,_,_,_],[]⟩) hO10 r12 hB13 rfl rfl rfl rfl (by kernel_rfl) (by simp) (by simp [END,oneCell]) rfl rfl ?_
    intro s14 hO15 hn16 hu17 r18 hX19
    refine EndsOps.nil ?_
    refine Ends.seq ?_
    refine Ends.drawW (bef := [0,0,3,7,15,31,63,127,255,255,767,2047,4095,255,16383,32767,65535,131071]) (by kernel_rfl) ?_
    refine D.load (v := .agg ⟨[.int .i64 e5.lo,.int .i64 e5.hi,.string e5.tx]⟩) (fr1 := ⟨[_,_,_,_,_,_,_,_,_,_,_,_,_,_,.agg ⟨[.int .i64 e5.lo,.int .i64 e5.hi,.string e5.tx]⟩,_,_,_,_,_,_,_,_,_,_,_,_,_,_,_,_,_,_,_,_],[]⟩) rfl rfl rfl (fun _ h => by cases h) (fun s1 hg => (p_loadA ⟨hg.trans (r18).get,(r18).lt⟩ rfl rfl rfl rfl rfl)) rfl ?_
    refine D.op (v := .int .i64 n) (fr1 := ⟨[_,_,_,_,_,_,_,_,_,_,_,_,_,_,_,.int .i64 n,_,_,_,_,_,_,_,_,_,_,_,_,_,_,_,_,_,_,_],[]⟩) rfl rfl rfl rfl rfl ?_
    by_cases h20 : Within e5 n
    · skip
      refine D.call (ar := [.agg ⟨[.int .i64 e5.lo,.int .i64 e5.hi,.string e5.tx]⟩,.int .i64 n]) (X := .bool true) (fr1 := ⟨[_,_,_,_,_,_,_,_,_,_,_,_,_,_,_,_,.bool true,_,_,_,_,_,_,_,_,_,_,_,_,_,_,_,_,_,_],[]⟩) hO15 rfl rfl rfl rfl rfl ((c73 e5 n _).mono fun v _ _ h => h.trans (congrArg Value.bool (decide_eq_true h20))) rfl ?_
      intro s21 hO22 hS23
      have r24 := r18.own hS23
      refine D.op (v := .bool false) (fr1 := ⟨[_,_,_,_,_,_,_,_,_,_,_,_,_,_,_,_,_,.bool false,_,_,_,_,_,_,_,_,_,_,_,_,_,_,_,_,_],[]⟩) rfl rfl rfl rfl rfl ?_
      refine D.op (v := .bool false) (fr1 := ⟨[_,_,_,_,_,_,_,_,_,_,_,_,_,_,_,_,_,_,.bool false,_,_,_,_,_,_,_,_,_,_,_,_,_,_,_,_],[]⟩) rfl rfl rfl rfl rfl ?_
      refine D.op (v := .int .i64 ((i : Nat) : Int)) (fr1 := ⟨[_,_,_,_,_,_,_,_,_,_,_,_,_,_,_,_,_,_,_,.int .i64 ((i : Nat) : Int),_,_,_,_,_,_,_,_,_,_,_,_,_,_,_],[]⟩) rfl rfl rfl rfl rfl ?_
      by_cases h25 : (0 : Int) < ((i : Nat) : Int)
      · skip
        refine D.op (v := .bool true) (fr1 := ⟨[_,_,_,_,_,_,_,_,_,_,_,_,_,_,_,_,_,_,_,_,.bool true,_,_,_,_,_,_,_,_,_,_,_,_,_,_],[]⟩) rfl (p_bin (gtT h25)) rfl rfl rfl ?_
        refine D.op (v := .bool true) (fr1 := ⟨[_,_,_,_,_,_,_,_,_,_,_,_,_,_,_,_,_,_,_,_,_,.bool true,_,_,_,_,_,_,_,_,_,_,_,_,_],[]⟩) rfl rfl rfl rfl rfl ?_
        refine D.op (v := .slice al l.length cl) (fr1 := ⟨[_,_,_,_,_,_,_,_,_,_,_,_,_,_,_,_,_,_,_,_,_,_,.slice al l.length cl,_,_,_,_,_,_,_,_,_,_,_,_],[]⟩) rfl rfl rfl rfl rfl ?_
        refine D.op (v := .int .i64 ((i : Nat) : Int)) (fr1 := ⟨[_,_,_,_,_,_,_,_,_,_,_,_,_,_,_,_,_,_,_,_,_,_,_,.int .i64 ((i : Nat) : Int),_,_,_,_,_,_,_,_,_,_,_],[]⟩) rfl rfl rfl rfl rfl ?_
        obtain ⟨q26,hq27⟩ : ∃ q : Nat,(q : Int) = ((i : Nat) : Int) - 1 := ⟨(i - 1),by omega⟩
        refine D.op (v := .int .i64 ((q26 : Nat) : Int)) (fr1 := ⟨[_,_,_,_,_,_,_,_,_,_,_,_,_,_,_,_,_,_,_,_,_,_,_,_,.int .i64 ((q26 : Nat) : Int),_,_,_,_,_,_,_,_,_,_],[]⟩) rfl (p_bin (subI (by omega) (by omega) (by omega))) rfl rfl rfl ?_
        obtain ⟨e28,he29⟩ := ex_at (l := l) (i := q26) (by omega)
        refine D.op (v := .pointer (some ⟨Nl,ol + q26 * 3,none⟩)) (fr1 := ⟨[_,_,_,_,_,_,_,_,_,_,_,_,_,_,_,_,_,_,_,_,_,_,_,_,_,.pointer (some ⟨Nl,ol + q26 * 3,none⟩),_,_,_,_,_,_,_,_,_],[]⟩) rfl (p_ix (Sl.ix Hl rfl rfl he29 _)) rfl rfl rfl ?_
        refine D.load (v := .agg ⟨[.int .i64 e28.lo,.int .i64 e28.hi,.string e28.tx]⟩) (fr1 := ⟨[_,_,_,_,_,_,_,_,_,_,_,_,_,_,_,_,_,_,_,_,_,_,_,_,_,_,.agg ⟨[.int .i64 e28.lo,.int .i64 e28.hi,.string e28.tx]⟩,_,_,_,_,_,_,_,_],[]⟩) rfl rfl rfl (fun _ h => by cases h) (fun s1 hg => (p_loadA ⟨hg.trans ((Sl.row' (Hl.own hO22) he29)).get,((Sl.row' (Hl.own hO22) he29)).lt⟩ rfl rfl rfl rfl ((Hl.own hO22).get _ _ he29))) rfl ?_
        refine D.load (v := .agg ⟨[.int .i64 e5.lo,.int .i64 e5.hi,.string e5.tx]⟩) (fr1 := ⟨[_,_,_,_,_,_,_,_,_,_,_,_,_,_,_,_,_,_,_,_,_,_,_,_,_,_,_,.agg ⟨[.int .i64 e5.lo,.int .i64 e5.hi,.string e5.tx]⟩,_,_,_,_,_,_,_],[]⟩) rfl rfl rfl (fun _ h => by cases h) (fun s1 hg => (p_loadA ⟨hg.trans (r24).get,(r24).lt⟩ rfl rfl rfl rfl rfl)) rfl ?_
        by_cases h30 : Behind e28 e5
        · skip
          refine D.call (ar := [.agg ⟨[.int .i64 e28.lo,.int .i64 e28.hi,.string e28.tx]⟩,.agg ⟨[.int .i64 e5.lo,.int .i64 e5.hi,.string e5.tx]⟩]) (X := .bool true) (fr1 := ⟨[_,_,_,_,_,_,_,_,_,_,_,_,_,_,_,_,_,_,_,_,_,_,_,_,_,_,_,_,.bool true,_,_,_,_,_,_],[]⟩) hO22 rfl rfl rfl rfl rfl ((c74 e28 e5 _).mono fun v _ _ h => h.trans (congrArg Value.bool (decide_eq_true h30))) rfl ?_
          intro s31 hO32 hS33
          have r34 := r24.own hS33
          refine D.op (v := .bool false) (fr1 := ⟨[_,_,_,_,_,_,_,_,_,_,_,_,_,_,_,_,_,_,_,_,_,_,_,_,_,_,_,_,_,.bool false,_,_,_,_,_],[]⟩) rfl rfl rfl rfl rfl ?_
          refine D.op (v := .bool false) (fr1 := ⟨[_,_,_,_,_,_,_,_,_,_,_,_,_,_,_,_,_,_,_,_,_,_,_,_,_,_,_,_,_,_,.bool false,_,_,_,_],[]⟩) rfl rfl rfl rfl rfl ?_
          refine D.op (v := .bool false) (fr1 := ⟨[_,_,_,_,_,_,_,_,_,_,_,_,_,_,_,_,_,_,_,_,_,_,_,_,_,_,_,_,_,_,_,.bool false,_,_,_],[]⟩) rfl rfl rfl rfl rfl ?_
          refine D.nil ?_
          refine Ends.condF rfl ?_
          refine Ends.skip ?_
          refine Ends.region ?_
          refine W.op (v := .int .i64 ((i + 1 : Nat) : Int)) (fr1 := ⟨[_,_,_,_,_,_,_,_,_,_,_,_,_,_,_,_,_,_,_,_,_,_,_,_,_,_,_,_,_,_,_,_,.int .i64 ((i + 1 : Nat) : Int),_,_],[]⟩) rfl (p_bin (addI (by omega) (by omega) (by omega))) rfl rfl ?_
          refine W.op (v := .int .i64 ((i + 1 : Nat) : Int)) (fr1 := ⟨[_,_,_,_,_,_,_,_,_,.int .i64 ((i + 1 : Nat) : Int),_,_,_,_,_,_,_,_,_,_,_,_,_,_,_,_,_,_,_,_,_,_,_,_,_],[]⟩) rfl rfl rfl rfl ?_
          refine EndsOps.nil ?_
          exact ⟨_,(by omega),i + 1,_,_,_,_,_,_,_,_,_,_,_,_,_,_,_,_,_,_,_,_,_,_,_,_,_,_,rfl,hO32,rfl,by omega,Ok.step hok he6 h20 he29 (by omega) (by exact h30)⟩
        · skip
          refine D.call (ar := [.agg ⟨[.int .i64 e28.lo,.int .i64 e28.hi,.string e28.tx]⟩,.agg ⟨[.int .i64 e5.lo,.int .i64 e5.hi,.string e5.tx]⟩]) (X := .bool false) (fr1 := ⟨[_,_,_,_,_,_,_,_,_,_,_,_,_,_,_,_,_,_,_,_,_,_,_,_,_,_,_,_,.bool false,_,_,_,_,_,_],[]⟩) hO22 rfl rfl rfl rfl rfl ((c74 e28 e5 _).mono fun v _ _ h => h.trans (congrArg Value.bool (decide_eq_false h30))) rfl ?_
          intro s35 hO36 hS37
          have r38 := r24.own hS37
          refine D.op (v := .bool true) (fr1 := ⟨[_,_,_,_,_,_,_,_,_,_,_,_,_,_,_,_,_,_,_,_,_,_,_,_,_,_,_,_,_,.bool true,_,_,_,_,_],[]⟩) rfl rfl rfl rfl rfl ?_
          refine D.op (v := .bool true) (fr1 := ⟨[_,_,_,_,_,_,_,_,_,_,_,_,_,_,_,_,_,_,_,_,_,_,_,_,_,_,_,_,_,_,.bool true,_,_,_,_],[]⟩) rfl rfl rfl rfl rfl ?_
          refine D.op (v := .bool true) (fr1 := ⟨[_,_,_,_,_,_,_,_,_,_,_,_,_,_,_,_,_,_,_,_,_,_,_,_,_,_,_,_,_,_,_,.bool true,_,_,_],[]⟩) rfl rfl rfl rfl rfl ?_
          refine D.nil ?_
          refine Ends.condT rfl ?_
          refine Ends.seq ?_
          refine Ends.region ?_
          refine W.op (v := .bool false) (fr1 := ⟨[_,_,_,_,.bool false,_,_,_,_,_,_,_,_,_,_,_,_,_,_,_,_,_,_,_,_,_,_,_,_,_,_,_,_,_,_],[]⟩) rfl rfl rfl rfl ?_
          refine EndsOps.nil ?_
          refine Ends.ret ?_
          exact ⟨rfl,rfl,hO36,by
            show Value.bool false = .bool (decide (Right l n))
            exact congrArg Value.bool (decide_eq_false fun hR => by have := hR.at he6 he29 (by omega); simp only [Behind] at *; omega).symm⟩
      · skip
        refine D.op (v := .bool false) (fr1 := ⟨[_,_,_,_,_,_,_,_,_,_,_,_,_,_,_,_,_,_,_,_,.bool false,_,_,_,_,_,_,_,_,_,_,_,_,_,_],[]⟩) rfl (p_bin (gtF h25)) rfl rfl rfl ?_
        refine D.op (v := .bool false) (fr1 := ⟨[_,_,_,_,_,_,_,_,_,_,_,_,_,_,_,_,_,_,_,_,_,.bool false,_,_,_,_,_,_,_,_,_,_,_,_,_],[]⟩) rfl rfl rfl rfl rfl ?_
        refine D.skip (fr1 := ⟨[_,_,_,_,_,_,_,_,_,_,_,_,_,_,_,_,_,_,_,_,_,_,undef,_,_,_,_,_,_,_,_,_,_,_,_],[]⟩) rfl rfl ?_
        refine D.skip (fr1 := ⟨[_,_,_,_,_,_,_,_,_,_,_,_,_,_,_,_,_,_,_,_,_,_,_,undef,_,_,_,_,_,_,_,_,_,_,_],[]⟩) rfl rfl ?_
        refine D.skip (fr1 := ⟨[_,_,_,_,_,_,_,_,_,_,_,_,_,_,_,_,_,_,_,_,_,_,_,_,undef,_,_,_,_,_,_,_,_,_,_],[]⟩) rfl rfl ?_
        refine D.skip (fr1 := ⟨[_,_,_,_,_,_,_,_,_,_,_,_,_,_,_,_,_,_,_,_,_,_,_,_,_,undef,_,_,_,_,_,_,_,_,_],[]⟩) rfl rfl ?_
        refine D.skip (fr1 := ⟨[_,_,_,_,_,_,_,_,_,_,_,_,_,_,_,_,_,_,_,_,_,_,_,_,_,_,undef,_,_,_,_,_,_,_,_],[]⟩) rfl rfl ?_
        refine D.skip (fr1 := ⟨[_,_,_,_,_,_,_,_,_,_,_,_,_,_,_,_,_,_,_,_,_,_,_,_,_,_,_,undef,_,_,_,_,_,_,_],[]⟩) rfl rfl ?_
        refine D.skip (fr1 := ⟨[_,_,_,_,_,_,_,_,_,_,_,_,_,_,_,_,_,_,_,_,_,_,_,_,_,_,_,_,undef,_,_,_,_,_,_],[]⟩) rfl rfl ?_
        refine D.skip (fr1 := ⟨[_,_,_,_,_,_,_,_,_,_,_,_,_,_,_,_,_,_,_,_,_,_,_,_,_,_,_,_,_,undef,_,_,_,_,_],[]⟩) rfl rfl ?_
        refine D.op (v := .bool false) (fr1 := ⟨[_,_,_,_,_,_,_,_,_,_,_,_,_,_,_,_,_,_,_,_,_,_,_,_,_,_,_,_,_,_,.bool false,_,_,_,_],[]⟩) rfl rfl rfl rfl rfl ?_
        refine D.op (v := .bool false) (fr1 := ⟨[_,_,_,_,_,_,_,_,_,_,_,_,_,_,_,_,_,_,_,_,_,_,_,_,_,_,_,_,_,_,_,.bool false,_,_,_],[]⟩) rfl rfl rfl rfl rfl ?_
        refine D.nil ?_
        refine Ends.condF rfl ?_
        refine Ends.skip ?_
        refine Ends.region ?_
        refine W.op (v := .int .i64 ((i + 1 : Nat) : Int)) (fr1 := ⟨[_,_,_,_,_,_,_,_,_,_,_,_,_,_,_,_,_,_,_,_,_,_,_,_,_,_,_,_,_,_,_,_,.int .i64 ((i + 1 : Nat) : Int),_,_],[]⟩) rfl (p_bin (addI (by omega) (by omega) (by omega))) rfl rfl ?_
        refine W.op (v := .int .i64 ((i + 1 : Nat) : Int)) (fr1 := ⟨[_,_,_,_,_,_,_,_,_,.int .i64 ((i + 1 : Nat) : Int),_,_,_,_,_,_,_,_,_,_,_,_,_,_,_,_,_,_,_,_,_,_,_,_,_],[]⟩) rfl rfl rfl rfl ?_
        refine EndsOps.nil ?_
        exact ⟨_,(by omega),i + 1,_,_,_,_,_,_,_,_,_,_,_,_,_,_,_,_,_,_,_,_,_,_,_,_,_,_,rfl,hO22,rfl,by omega,Ok.step0 hok he6 h20 (by omega)⟩
    · skip
      refine D.call (ar := [.agg ⟨[.int .i64 e5.lo,.int .i64 e5.hi,.string e5.tx]⟩,.int .i64 n]) (X := .bool false) (fr1 := ⟨[_,_,_,_,_,_,_,_,_,_,_,_,_,_,_,_,.bool false,_,_,_,_,_,_,_,_,_,_,_,_,_,_,_,_,_,_],[]⟩) hO15 rfl rfl rfl rfl rfl ((c73 e5 n _).mono fun v _ _ h => h.trans (congrArg Value.bool (decide_eq_false h20))) rfl ?_
      intro s39 hO40 hS41
      have r42 := r18.own hS41
      refine D.op (v := .bool true) (fr1 := ⟨[_,_,_,_,_,_,_,_,_,_,_,_,_,_,_,_,_,.bool true,_,_,_,_,_,_,_,_,_,_,_,_,_,_,_,_,_],[]⟩) rfl rfl rfl rfl rfl ?_
      refine D.op (v := .bool true) (fr1 := ⟨[_,_,_,_,_,_,_,_,_,_,_,_,_,_,_,_,_,_,.bool true,_,_,_,_,_,_,_,_,_,_,_,_,_,_,_,_],[]⟩) rfl rfl rfl rfl rfl ?_
      refine D.skip (fr1 := ⟨[_,_,_,_,_,_,_,_,_,_,_,_,_,_,_,_,_,_,_,undef,_,_,_,_,_,_,_,_,_,_,_,_,_,_,_],[]⟩) rfl rfl ?_
      refine D.skip (fr1 := ⟨[_,_,_,_,_,_,_,_,_,_,_,_,_,_,_,_,_,_,_,_,undef,_,_,_,_,_,_,_,_,_,_,_,_,_,_],[]⟩) rfl rfl ?_
      refine D.skip (fr1 := ⟨[_,_,_,_,_,_,_,_,_,_,_,_,_,_,_,_,_,_,_,_,_,undef,_,_,_,_,_,_,_,_,_,_,_,_,_],[]⟩) rfl rfl ?_
      refine D.skip (fr1 := ⟨[_,_,_,_,_,_,_,_,_,_,_,_,_,_,_,_,_,_,_,_,_,_,undef,_,_,_,_,_,_,_,_,_,_,_,_],[]⟩) rfl rfl ?_
      refine D.skip (fr1 := ⟨[_,_,_,_,_,_,_,_,_,_,_,_,_,_,_,_,_,_,_,_,_,_,_,undef,_,_,_,_,_,_,_,_,_,_,_],[]⟩) rfl rfl ?_
      refine D.skip (fr1 := ⟨[_,_,_,_,_,_,_,_,_,_,_,_,_,_,_,_,_,_,_,_,_,_,_,_,undef,_,_,_,_,_,_,_,_,_,_],[]⟩) rfl rfl ?_
      refine D.skip (fr1 := ⟨[_,_,_,_,_,_,_,_,_,_,_,_,_,_,_,_,_,_,_,_,_,_,_,_,_,undef,_,_,_,_,_,_,_,_,_],[]⟩) rfl rfl ?_
      refine D.skip (fr1 := ⟨[_,_,_,_,_,_,_,_,_,_,_,_,_,_,_,_,_,_,_,_,_,_,_,_,_,_,undef,_,_,_,_,_,_,_,_],[]⟩) rfl rfl ?_
      refine D.skip (fr1 := ⟨[_,_,_,_,_,_,_,_,_,_,_,_,_,_,_,_,_,_,_,_,_,_,_,_,_,_,_,undef,_,_,_,_,_,_,_],[]⟩) rfl rfl ?_
      refine D.skip (fr1 := ⟨[_,_,_,_,_,_,_,_,_,_,_,_,_,_,_,_,_,_,_,_,_,_,_,_,_,_,_,_,undef,_,_,_,_,_,_],[]⟩) rfl rfl ?_
      refine D.skip (fr1 := ⟨[_,_,_,_,_,_,_,_,_,_,_,_,_,_,_,_,_,_,_,_,_,_,_,_,_,_,_,_,_,undef,_,_,_,_,_],[]⟩) rfl rfl ?_
      refine D.skip (fr1 := ⟨[_,_,_,_,_,_,_,_,_,_,_,_,_,_,_,_,_,_,_,_,_,_,_,_,_,_,_,_,_,_,undef,_,_,_,_],[]⟩) rfl rfl ?_
      refine D.op (v := .bool true) (fr1 := ⟨[_,_,_,_,_,_,_,_,_,_,_,_,_,_,_,_,_,_,_,_,_,_,_,_,_,_,_,_,_,_,_,.bool true,_,_,_],[]⟩) rfl rfl rfl rfl rfl ?_
      refine D.nil ?_
      refine Ends.condT rfl ?_
      refine Ends.seq ?_
      refine Ends.region ?_
      refine W.op (v := .bool false) (fr1 := ⟨[_,_,_,_,.bool false,_,_,_,_,_,_,_,_,_,_,_,_,_,_,_,_,_,_,_,_,_,_,_,_,_,_,_,_,_,_],[]⟩) rfl rfl rfl rfl ?_
      refine EndsOps.nil ?_
      refine Ends.ret ?_
      exact ⟨rfl,rfl,hO40,by
        show Value.bool false = .bool (decide (Right l n))
        exact congrArg Value.bool (decide_eq_false fun hR => h20 (hR.2 i (by omega) _ he6).1).symm⟩
  · skip
    refine W.op (v := .bool false) (fr1 := ⟨[_,_,_,_,_,_,_,_,_,_,.bool false,_,_,_,_,_,_,_,_,_,_,_,_,_,_,_,_,_,_,_,_,_,_,_,_],[]⟩) rfl (p_bin (ltF h4)) rfl rfl ?_
    refine EndsOps.nil ?_
    refine Ends.seq ?_
    refine Ends.condF rfl ?_
    refine Ends.exit ?_
    refine W.outT rfl ?_
    refine Ends.seq ?_
    refine Ends.region ?_
    refine W.op (v := .int .i64 n) (fr1 := ⟨[_,_,_,_,_,_,_,_,_,_,_,_,_,_,_,_,_,_,_,_,_,_,_,_,_,_,_,_,_,_,_,_,_,.int .i64 n,_],[]⟩) rfl rfl rfl rfl ?_
    by_cases h43 : (0 : Int) ≤ n
    · skip
      refine W.op (v := .bool true) (fr1 := ⟨[_,_,_,_,_,_,_,_,_,_,_,_,_,_,_,_,_,_,_,_,_,_,_,_,_,_,_,_,_,_,_,_,_,_,.bool true],[]⟩) rfl (p_bin (geT h43)) rfl rfl ?_
      refine W.op (v := .bool true) (fr1 := ⟨[_,_,_,_,.bool true,_,_,_,_,_,_,_,_,_,_,_,_,_,_,_,_,_,_,_,_,_,_,_,_,_,_,_,_,_,_],[]⟩) rfl rfl rfl rfl ?_
      refine EndsOps.nil ?_
      refine Ends.ret ?_
      exact ⟨rfl,rfl,hO2,by
        show Value.bool true = .bool (decide (Right l n))
        exact congrArg Value.bool (decide_eq_true ⟨by omega,fun k hk => hok k (by omega)⟩).symm⟩
    · skip
      refine W.op (v := .bool false) (fr1 := ⟨[_,_,_,_,_,_,_,_,_,_,_,_,_,_,_,_,_,_,_,_,_,_,_,_,_,_,_,_,_,_,_,_,_,_,.bool false],[]⟩) rfl (p_bin (geF h43)) rfl rfl ?_
      refine W.op (v := .bool false) (fr1 := ⟨[_,_,_,_,.bool false,_,_,_,_,_,_,_,_,_,_,_,_,_,_,_,_,_,_,_,_,_,_,_,_,_,_,_,_,_,_],[]⟩) rfl rfl rfl rfl ?_
      refine EndsOps.nil ?_
      refine Ends.ret ?_
      exact ⟨rfl,rfl,hO2,by
        show Value.bool false = .bool (decide (Right l n))
        exact congrArg Value.bool (decide_eq_false fun hR => by have := hR.1; omega).symm⟩
theorem c72 (al : Option Addr) (l : List Ed) (cl Nl ol : Nat) (vl : List Value) (yl zl : Nat) (s : St) (Hl : Sl Ed.cells 3 s.t s.next al l Nl ol vl yl zl)  : EndsPure R1.T 72 [.slice al l.length cl] s (fun v _ _ => v = .int .i64 (W (growS l))) := by
  refine EndsPure.of (rs := [2]) (fr0 := ⟨[.slice al l.length cl,undef,undef,undef,undef,undef,undef,undef,undef,undef,undef,undef,undef,undef,undef,undef,undef,undef,undef,undef,undef,undef,undef,undef,undef],[]⟩) (by kernel_rfl : R1.T.fn 72 = some ⟨25,(Try.f72.body).getD .skip,[.tmp 2]⟩) rfl ?_
  have hO0 := Own.refl s
  have Ml := Hl.small
  simp only [Try.f72,Option.getD]
  refine Ends.seq ?_
  refine Ends.region ?_
  refine W.op (v := .int .i64 0) (fr1 := ⟨[_,_,.int .i64 0,_,_,_,_,_,_,_,_,_,_,_,_,_,_,_,_,_,_,_,_,_,_],[]⟩) rfl rfl rfl rfl ?_
  refine EndsOps.nil ?_
  refine Ends.seq ?_
  refine Ends.region ?_
  refine W.op (v := .int .i64 0) (fr1 := ⟨[_,_,_,.int .i64 0,_,_,_,_,_,_,_,_,_,_,_,_,_,_,_,_,_,_,_,_,_],[]⟩) rfl rfl rfl rfl ?_
  refine EndsOps.nil ?_
  refine Ends.seq ?_
  refine Ends.seq ?_
  refine Ends.region ?_
  refine W.op (v := .slice al l.length cl) (fr1 := ⟨[_,_,_,_,_,_,.slice al l.length cl,_,_,_,_,_,_,_,_,_,_,_,_,_,_,_,_,_,_],[]⟩) rfl rfl rfl rfl ?_
  refine W.op (v := .int .i64 ((l.length : Nat) : Int)) (fr1 := ⟨[_,_,_,_,_,_,_,.int .i64 ((l.length : Nat) : Int),_,_,_,_,_,_,_,_,_,_,_,_,_,_,_,_,_],[]⟩) rfl rfl rfl rfl ?_
  refine W.op (v := .int .i64 0) (fr1 := ⟨[_,_,_,_,_,_,_,_,.int .i64 0,_,_,_,_,_,_,_,_,_,_,_,_,_,_,_,_],[]⟩) rfl rfl rfl rfl ?_
  refine EndsOps.nil ?_
  refine W.block ?_
  refine Ends.loopInv (fun d fr s1 => ∃ (i : Nat) (j5 j9 j10 j11 j12 j13 j14 j15 j16 j17 j18 j19 j20 j21 j22 j23 : Value),fr = ⟨[.slice al l.length cl,undef,.int .i64 0,.int .i64 (W (growS (l.take i))),undef,j5,.slice al l.length cl,.int .i64 ((l.length : Nat) : Int),.int .i64 ((i : Nat) : Int),j9,j10,j11,j12,j13,j14,j15,j16,j17,j18,j19,j20,j21,j22,j23,undef],[]⟩ ∧ Own s s1 ∧ d = l.length - i ∧ (i ≤ l.length)) ?_ _ _ _ ⟨0,_,_,_,_,_,_,_,_,_,_,_,_,_,_,_,_,rfl,hO0,rfl,Nat.zero_le _⟩
  rintro d _ s1 ⟨i,j5,j9,j10,j11,j12,j13,j14,j15,j16,j17,j18,j19,j20,j21,j22,j23,rfl,hO2,hd3,hi⟩
  refine Ends.seq ?_
  refine Ends.region ?_
  by_cases h4 : ((i : Nat) : Int) < ((l.length : Nat) : Int)
  · skip
    refine W.op (v := .bool true) (fr1 := ⟨[_,_,_,_,_,_,_,_,_,.bool true,_,_,_,_,_,_,_,_,_,_,_,_,_,_,_],[]⟩) rfl (p_bin (ltT h4)) rfl rfl ?_
    refine EndsOps.nil ?_
    refine Ends.seq ?_
    refine Ends.condT rfl ?_
    refine Ends.skip ?_
    refine Ends.seq ?_
    refine W.block ?_
    refine Ends.seq ?_
    refine Ends.region ?_
    obtain ⟨e5,he6⟩ := ex_at (l := l) (i := i) (by omega)
    refine W.op (v := .pointer (some ⟨Nl,ol + i * 3,none⟩)) (fr1 := ⟨[_,_,_,_,_,_,_,_,_,_,.pointer (some ⟨Nl,ol + i * 3,none⟩),_,_,_,_,_,_,_,_,_,_,_,_,_,_],[]⟩) rfl (p_ix (Sl.ix Hl rfl rfl he6 _)) rfl rfl ?_
    refine W.op (v := .agg ⟨[.int .i64 e5.lo,.int .i64 e5.hi,.string e5.tx]⟩) (fr1 := ⟨[_,_,_,_,_,_,_,_,_,_,_,.agg ⟨[.int .i64 e5.lo,.int .i64 e5.hi,.string e5.tx]⟩,_,_,_,_,_,_,_,_,_,_,_,_,_],[]⟩) rfl (p_loadA (Sl.row' (Hl.own hO2) he6) rfl rfl rfl rfl ((Hl.own hO2).get _ _ he6)) rfl rfl ?_
    obtain ⟨N7,hN8⟩ : ∃ N,N = s1.next := ⟨_,rfl⟩
    refine W.new (N := N7) (vs := [.int .i64 0,.int .i64 0,.string ByteArray.empty]) (fr1 := ⟨[_,_,_,_,_,.pointer (some ⟨N7,0,none⟩),_,_,_,_,_,_,_,_,_,_,_,_,_,_,_,_,_,_,_],[]⟩) hO2 hN8 rfl (p_alloc zero97 rfl) rfl rfl ?_
    intro s9 hO10 hS11 r12 hB13
    refine W.store2 (cs := [.int .i64 e5.lo,.int .i64 e5.hi,.string e5.tx]) (vs' := [.int .i64 e5.lo,.int .i64 e5.hi,.string e5.tx]) (fr1 := ⟨[_,_,_,_,_,_,_,_,_,_,_,_,_,_,_,_,_,_,_,_,_,_,_,_,_],[]⟩) hO10 r12 hB13 rfl rfl rfl rfl (by kernel_rfl) (by simp) (by simp [END,oneCell]) rfl rfl ?_
    intro s14 hO15 hn16 hu17 r18 hX19
    refine EndsOps.nil ?_
    refine Ends.region ?_
    refine W.op (v := .int .i64 (W (growS (l.take i)))) (fr1 := ⟨[_,_,_,_,_,_,_,_,_,_,_,_,.int .i64 (W (growS (l.take i))),_,_,_,_,_,_,_,_,_,_,_,_],[]⟩) rfl rfl rfl rfl ?_
    refine W.op (v := .pointer (some ⟨N7,2,none⟩)) (fr1 := ⟨[_,_,_,_,_,_,_,_,_,_,_,_,_,.pointer (some ⟨N7,2,none⟩),_,_,_,_,_,_,_,_,_,_,_],[]⟩) rfl rfl rfl rfl ?_
    refine W.op (v := .string e5.tx) (fr1 := ⟨[_,_,_,_,_,_,_,_,_,_,_,_,_,_,.string e5.tx,_,_,_,_,_,_,_,_,_,_],[]⟩) rfl (p_load1 r18 rfl rfl rfl rfl) rfl rfl ?_
    refine W.op (v := .int .i64 (((B e5.tx).length : Nat) : Int)) (fr1 := ⟨[_,_,_,_,_,_,_,_,_,_,_,_,_,_,_,.int .i64 (((B e5.tx).length : Nat) : Int),_,_,_,_,_,_,_,_,_],[]⟩) rfl rfl rfl rfl ?_
    refine W.op (v := .pointer (some ⟨N7,1,none⟩)) (fr1 := ⟨[_,_,_,_,_,_,_,_,_,_,_,_,_,_,_,_,.pointer (some ⟨N7,1,none⟩),_,_,_,_,_,_,_,_],[]⟩) rfl rfl rfl rfl ?_
    refine W.op (v := .int .i64 e5.hi) (fr1 := ⟨[_,_,_,_,_,_,_,_,_,_,_,_,_,_,_,_,_,.int .i64 e5.hi,_,_,_,_,_,_,_],[]⟩) rfl (p_load1 r18 rfl rfl rfl rfl) rfl rfl ?_
    refine W.op (v := .pointer (some ⟨N7,0,none⟩)) (fr1 := ⟨[_,_,_,_,_,_,_,_,_,_,_,_,_,_,_,_,_,_,.pointer (some ⟨N7,0,none⟩),_,_,_,_,_,_],[]⟩) rfl rfl rfl rfl ?_
    refine W.op (v := .int .i64 e5.lo) (fr1 := ⟨[_,_,_,_,_,_,_,_,_,_,_,_,_,_,_,_,_,_,_,.int .i64 e5.lo,_,_,_,_,_],[]⟩) rfl (p_load1 r18 rfl rfl rfl rfl) rfl rfl ?_
    refine W.op (v := .int .i64 (W (e5.hi - e5.lo))) (fr1 := ⟨[_,_,_,_,_,_,_,_,_,_,_,_,_,_,_,_,_,_,_,_,.int .i64 (W (e5.hi - e5.lo)),_,_,_,_],[]⟩) rfl (p_bin subW) rfl rfl ?_
    refine W.op (v := .int .i64 (W ((((B e5.tx).length : Nat) : Int) - W (e5.hi - e5.lo)))) (fr1 := ⟨[_,_,_,_,_,_,_,_,_,_,_,_,_,_,_,_,_,_,_,_,_,.int .i64 (W ((((B e5.tx).length : Nat) : Int) - W (e5.hi - e5.lo))),_,_,_],[]⟩) rfl (p_bin subW) rfl rfl ?_
    refine W.op (v := .int .i64 (W (growS (l.take (i + 1))))) (fr1 := ⟨[_,_,_,_,_,_,_,_,_,_,_,_,_,_,_,_,_,_,_,_,_,_,.int .i64 (W (growS (l.take (i + 1)))),_,_],[]⟩) rfl (p_bin (addW.trans (congrArg (fun z => some (Value.int IntKind.i64 z)) (W_grow1 he6)))) rfl rfl ?_
    refine W.op (v := .int .i64 (W (growS (l.take (i + 1))))) (fr1 := ⟨[_,_,_,.int .i64 (W (growS (l.take (i + 1)))),_,_,_,_,_,_,_,_,_,_,_,_,_,_,_,_,_,_,_,_,_],[]⟩) rfl rfl rfl rfl ?_
    refine EndsOps.nil ?_
    refine Ends.region ?_
    refine W.op (v := .int .i64 ((i + 1 : Nat) : Int)) (fr1 := ⟨[_,_,_,_,_,_,_,_,_,_,_,_,_,_,_,_,_,_,_,_,_,_,_,.int .i64 ((i + 1 : Nat) : Int),_],[]⟩) rfl (p_bin (addI (by omega) (by omega) (by omega))) rfl rfl ?_
    refine W.op (v := .int .i64 ((i + 1 : Nat) : Int)) (fr1 := ⟨[_,_,_,_,_,_,_,_,.int .i64 ((i + 1 : Nat) : Int),_,_,_,_,_,_,_,_,_,_,_,_,_,_,_,_],[]⟩) rfl rfl rfl rfl ?_
    refine EndsOps.nil ?_
    exact ⟨_,(by omega),i + 1,_,_,_,_,_,_,_,_,_,_,_,_,_,_,_,_,rfl,hO15,rfl,by omega⟩
  · skip
    refine W.op (v := .bool false) (fr1 := ⟨[_,_,_,_,_,_,_,_,_,.bool false,_,_,_,_,_,_,_,_,_,_,_,_,_,_,_],[]⟩) rfl (p_bin (ltF h4)) rfl rfl ?_
    refine EndsOps.nil ?_
    refine Ends.seq ?_
    refine Ends.condF rfl ?_
    refine Ends.exit ?_
    refine W.outT rfl ?_
    refine Ends.seq ?_
    refine Ends.region ?_
    refine W.op (v := .int .i64 (W (growS (l.take i)))) (fr1 := ⟨[_,_,_,_,_,_,_,_,_,_,_,_,_,_,_,_,_,_,_,_,_,_,_,_,.int .i64 (W (growS (l.take i)))],[]⟩) rfl rfl rfl rfl ?_
    refine W.op (v := .int .i64 (W (growS (l.take i)))) (fr1 := ⟨[_,_,.int .i64 (W (growS (l.take i))),_,_,_,_,_,_,_,_,_,_,_,_,_,_,_,_,_,_,_,_,_,_],[]⟩) rfl rfl rfl rfl ?_
    refine EndsOps.nil ?_
    refine Ends.ret ?_
    exact ⟨rfl,rfl,hO2,by
      show Value.int .i64 (W (growS (l.take i))) = .int .i64 (W (growS l))
      rw [show i = l.length by omega,List.take_length]⟩
end Go.Ev.R1

