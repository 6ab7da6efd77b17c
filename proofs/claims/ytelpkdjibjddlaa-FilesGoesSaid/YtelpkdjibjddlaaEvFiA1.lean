/-
  EV: contracts of the first seat's functions.
-/
import Derived.Test.YtelpkdjibjddlaaEvC2
import Derived.Test.YtelpkdjibjddlaaEvFiles
namespace Go.Ev.R1
open Go Go.Ev Go.Proofs
set_option maxRecDepth 10000
theorem zero68 : R1.T.zero 68 = some (.agg ⟨[.string ByteArray.empty,.string ByteArray.empty]⟩) := by kernel_rfl
theorem c97 (c : Int) (s : St) : EndsPure R1.T 97 [.int .i32 c] s (fun v _ _ => v = .bool (decide (PlainC c))) := by
  refine EndsPure.of (rs := [2]) (fr0 := ⟨[.int .i32 c,undef,undef,undef,undef,undef,undef,undef,undef,undef,undef,undef,undef,undef,undef,undef,undef,undef,undef,undef,undef,undef,undef,undef,undef,undef,undef,undef,undef,undef,undef,undef,undef,undef,undef,undef,undef],[]⟩) (by kernel_rfl : R1.T.fn 97 = some ⟨37,(Try.f97.body).getD .skip,[.tmp 2]⟩) rfl ?_
  have hO0 := Own.refl s
  simp only [Try.f97,Option.getD]
  refine Ends.seq ?_
  refine Ends.region ?_
  refine W.op (v := .bool false) (fr1 := ⟨[_,_,.bool false,_,_,_,_,_,_,_,_,_,_,_,_,_,_,_,_,_,_,_,_,_,_,_,_,_,_,_,_,_,_,_,_,_,_],[]⟩) rfl rfl rfl rfl ?_
  refine EndsOps.nil ?_
  refine Ends.seq ?_
  refine Ends.region ?_
  refine W.op (v := .int .i32 c) (fr1 := ⟨[_,_,_,.int .i32 c,_,_,_,_,_,_,_,_,_,_,_,_,_,_,_,_,_,_,_,_,_,_,_,_,_,_,_,_,_,_,_,_,_],[]⟩) rfl rfl rfl rfl ?_
  by_cases h1 : (97 : Int) ≤ c
  · skip
    refine W.op (v := .bool true) (fr1 := ⟨[_,_,_,_,.bool true,_,_,_,_,_,_,_,_,_,_,_,_,_,_,_,_,_,_,_,_,_,_,_,_,_,_,_,_,_,_,_,_],[]⟩) rfl (p_bin (geT h1)) rfl rfl ?_
    refine W.op (v := .bool true) (fr1 := ⟨[_,_,_,_,_,.bool true,_,_,_,_,_,_,_,_,_,_,_,_,_,_,_,_,_,_,_,_,_,_,_,_,_,_,_,_,_,_,_],[]⟩) rfl rfl rfl rfl ?_
    refine W.op (v := .int .i32 c) (fr1 := ⟨[_,_,_,_,_,_,.int .i32 c,_,_,_,_,_,_,_,_,_,_,_,_,_,_,_,_,_,_,_,_,_,_,_,_,_,_,_,_,_,_],[]⟩) rfl rfl rfl rfl ?_
    by_cases h2 : c ≤ 122
    · skip
      refine W.op (v := .bool true) (fr1 := ⟨[_,_,_,_,_,_,_,.bool true,_,_,_,_,_,_,_,_,_,_,_,_,_,_,_,_,_,_,_,_,_,_,_,_,_,_,_,_,_],[]⟩) rfl (p_bin (leT h2)) rfl rfl ?_
      refine W.op (v := .bool true) (fr1 := ⟨[_,_,_,_,_,_,_,_,.bool true,_,_,_,_,_,_,_,_,_,_,_,_,_,_,_,_,_,_,_,_,_,_,_,_,_,_,_,_],[]⟩) rfl rfl rfl rfl ?_
      refine W.op (v := .bool true) (fr1 := ⟨[_,_,_,_,_,_,_,_,_,.bool true,_,_,_,_,_,_,_,_,_,_,_,_,_,_,_,_,_,_,_,_,_,_,_,_,_,_,_],[]⟩) rfl rfl rfl rfl ?_
      refine W.skip (fr1 := ⟨[_,_,_,_,_,_,_,_,_,_,undef,_,_,_,_,_,_,_,_,_,_,_,_,_,_,_,_,_,_,_,_,_,_,_,_,_,_],[]⟩) rfl rfl ?_
      refine W.skip (fr1 := ⟨[_,_,_,_,_,_,_,_,_,_,_,undef,_,_,_,_,_,_,_,_,_,_,_,_,_,_,_,_,_,_,_,_,_,_,_,_,_],[]⟩) rfl rfl ?_
      refine W.skip (fr1 := ⟨[_,_,_,_,_,_,_,_,_,_,_,_,undef,_,_,_,_,_,_,_,_,_,_,_,_,_,_,_,_,_,_,_,_,_,_,_,_],[]⟩) rfl rfl ?_
      refine W.skip (fr1 := ⟨[_,_,_,_,_,_,_,_,_,_,_,_,_,undef,_,_,_,_,_,_,_,_,_,_,_,_,_,_,_,_,_,_,_,_,_,_,_],[]⟩) rfl rfl ?_
      refine W.skip (fr1 := ⟨[_,_,_,_,_,_,_,_,_,_,_,_,_,_,undef,_,_,_,_,_,_,_,_,_,_,_,_,_,_,_,_,_,_,_,_,_,_],[]⟩) rfl rfl ?_
      refine W.skip (fr1 := ⟨[_,_,_,_,_,_,_,_,_,_,_,_,_,_,_,undef,_,_,_,_,_,_,_,_,_,_,_,_,_,_,_,_,_,_,_,_,_],[]⟩) rfl rfl ?_
      refine W.op (v := .bool true) (fr1 := ⟨[_,_,_,_,_,_,_,_,_,_,_,_,_,_,_,_,.bool true,_,_,_,_,_,_,_,_,_,_,_,_,_,_,_,_,_,_,_,_],[]⟩) rfl rfl rfl rfl ?_
      refine W.op (v := .bool true) (fr1 := ⟨[_,_,_,_,_,_,_,_,_,_,_,_,_,_,_,_,_,.bool true,_,_,_,_,_,_,_,_,_,_,_,_,_,_,_,_,_,_,_],[]⟩) rfl rfl rfl rfl ?_
      refine W.skip (fr1 := ⟨[_,_,_,_,_,_,_,_,_,_,_,_,_,_,_,_,_,_,undef,_,_,_,_,_,_,_,_,_,_,_,_,_,_,_,_,_,_],[]⟩) rfl rfl ?_
      refine W.skip (fr1 := ⟨[_,_,_,_,_,_,_,_,_,_,_,_,_,_,_,_,_,_,_,undef,_,_,_,_,_,_,_,_,_,_,_,_,_,_,_,_,_],[]⟩) rfl rfl ?_
      refine W.skip (fr1 := ⟨[_,_,_,_,_,_,_,_,_,_,_,_,_,_,_,_,_,_,_,_,undef,_,_,_,_,_,_,_,_,_,_,_,_,_,_,_,_],[]⟩) rfl rfl ?_
      refine W.skip (fr1 := ⟨[_,_,_,_,_,_,_,_,_,_,_,_,_,_,_,_,_,_,_,_,_,undef,_,_,_,_,_,_,_,_,_,_,_,_,_,_,_],[]⟩) rfl rfl ?_
      refine W.skip (fr1 := ⟨[_,_,_,_,_,_,_,_,_,_,_,_,_,_,_,_,_,_,_,_,_,_,undef,_,_,_,_,_,_,_,_,_,_,_,_,_,_],[]⟩) rfl rfl ?_
      refine W.skip (fr1 := ⟨[_,_,_,_,_,_,_,_,_,_,_,_,_,_,_,_,_,_,_,_,_,_,_,undef,_,_,_,_,_,_,_,_,_,_,_,_,_],[]⟩) rfl rfl ?_
      refine W.op (v := .bool true) (fr1 := ⟨[_,_,_,_,_,_,_,_,_,_,_,_,_,_,_,_,_,_,_,_,_,_,_,_,.bool true,_,_,_,_,_,_,_,_,_,_,_,_],[]⟩) rfl rfl rfl rfl ?_
      refine W.op (v := .bool true) (fr1 := ⟨[_,_,_,_,_,_,_,_,_,_,_,_,_,_,_,_,_,_,_,_,_,_,_,_,_,.bool true,_,_,_,_,_,_,_,_,_,_,_],[]⟩) rfl rfl rfl rfl ?_
      refine W.skip (fr1 := ⟨[_,_,_,_,_,_,_,_,_,_,_,_,_,_,_,_,_,_,_,_,_,_,_,_,_,_,undef,_,_,_,_,_,_,_,_,_,_],[]⟩) rfl rfl ?_
      refine W.skip (fr1 := ⟨[_,_,_,_,_,_,_,_,_,_,_,_,_,_,_,_,_,_,_,_,_,_,_,_,_,_,_,undef,_,_,_,_,_,_,_,_,_],[]⟩) rfl rfl ?_
      refine W.op (v := .bool true) (fr1 := ⟨[_,_,_,_,_,_,_,_,_,_,_,_,_,_,_,_,_,_,_,_,_,_,_,_,_,_,_,_,.bool true,_,_,_,_,_,_,_,_],[]⟩) rfl rfl rfl rfl ?_
      refine W.op (v := .bool true) (fr1 := ⟨[_,_,_,_,_,_,_,_,_,_,_,_,_,_,_,_,_,_,_,_,_,_,_,_,_,_,_,_,_,.bool true,_,_,_,_,_,_,_],[]⟩) rfl rfl rfl rfl ?_
      refine W.skip (fr1 := ⟨[_,_,_,_,_,_,_,_,_,_,_,_,_,_,_,_,_,_,_,_,_,_,_,_,_,_,_,_,_,_,undef,_,_,_,_,_,_],[]⟩) rfl rfl ?_
      refine W.skip (fr1 := ⟨[_,_,_,_,_,_,_,_,_,_,_,_,_,_,_,_,_,_,_,_,_,_,_,_,_,_,_,_,_,_,_,undef,_,_,_,_,_],[]⟩) rfl rfl ?_
      refine W.op (v := .bool true) (fr1 := ⟨[_,_,_,_,_,_,_,_,_,_,_,_,_,_,_,_,_,_,_,_,_,_,_,_,_,_,_,_,_,_,_,_,.bool true,_,_,_,_],[]⟩) rfl rfl rfl rfl ?_
      refine W.op (v := .bool true) (fr1 := ⟨[_,_,_,_,_,_,_,_,_,_,_,_,_,_,_,_,_,_,_,_,_,_,_,_,_,_,_,_,_,_,_,_,_,.bool true,_,_,_],[]⟩) rfl rfl rfl rfl ?_
      refine W.skip (fr1 := ⟨[_,_,_,_,_,_,_,_,_,_,_,_,_,_,_,_,_,_,_,_,_,_,_,_,_,_,_,_,_,_,_,_,_,_,undef,_,_],[]⟩) rfl rfl ?_
      refine W.skip (fr1 := ⟨[_,_,_,_,_,_,_,_,_,_,_,_,_,_,_,_,_,_,_,_,_,_,_,_,_,_,_,_,_,_,_,_,_,_,_,undef,_],[]⟩) rfl rfl ?_
      refine W.op (v := .bool true) (fr1 := ⟨[_,_,_,_,_,_,_,_,_,_,_,_,_,_,_,_,_,_,_,_,_,_,_,_,_,_,_,_,_,_,_,_,_,_,_,_,.bool true],[]⟩) rfl rfl rfl rfl ?_
      refine W.op (v := .bool true) (fr1 := ⟨[_,_,.bool true,_,_,_,_,_,_,_,_,_,_,_,_,_,_,_,_,_,_,_,_,_,_,_,_,_,_,_,_,_,_,_,_,_,_],[]⟩) rfl rfl rfl rfl ?_
      refine EndsOps.nil ?_
      refine Ends.ret ?_
      exact ⟨rfl,rfl,hO0,by
        show Value.bool true = .bool (decide (PlainC c))
        exact congrArg Value.bool (decide_eq_true (by unfold PlainC; omega)).symm⟩
    · skip
      refine W.op (v := .bool false) (fr1 := ⟨[_,_,_,_,_,_,_,.bool false,_,_,_,_,_,_,_,_,_,_,_,_,_,_,_,_,_,_,_,_,_,_,_,_,_,_,_,_,_],[]⟩) rfl (p_bin (leF h2)) rfl rfl ?_
      refine W.op (v := .bool false) (fr1 := ⟨[_,_,_,_,_,_,_,_,.bool false,_,_,_,_,_,_,_,_,_,_,_,_,_,_,_,_,_,_,_,_,_,_,_,_,_,_,_,_],[]⟩) rfl rfl rfl rfl ?_
      refine W.op (v := .bool false) (fr1 := ⟨[_,_,_,_,_,_,_,_,_,.bool false,_,_,_,_,_,_,_,_,_,_,_,_,_,_,_,_,_,_,_,_,_,_,_,_,_,_,_],[]⟩) rfl rfl rfl rfl ?_
      refine W.op (v := .int .i32 c) (fr1 := ⟨[_,_,_,_,_,_,_,_,_,_,.int .i32 c,_,_,_,_,_,_,_,_,_,_,_,_,_,_,_,_,_,_,_,_,_,_,_,_,_,_],[]⟩) rfl rfl rfl rfl ?_
      refine W.op (v := .bool true) (fr1 := ⟨[_,_,_,_,_,_,_,_,_,_,_,.bool true,_,_,_,_,_,_,_,_,_,_,_,_,_,_,_,_,_,_,_,_,_,_,_,_,_],[]⟩) rfl (p_bin (geT (by omega))) rfl rfl ?_
      refine W.op (v := .bool true) (fr1 := ⟨[_,_,_,_,_,_,_,_,_,_,_,_,.bool true,_,_,_,_,_,_,_,_,_,_,_,_,_,_,_,_,_,_,_,_,_,_,_,_],[]⟩) rfl rfl rfl rfl ?_
      refine W.op (v := .int .i32 c) (fr1 := ⟨[_,_,_,_,_,_,_,_,_,_,_,_,_,.int .i32 c,_,_,_,_,_,_,_,_,_,_,_,_,_,_,_,_,_,_,_,_,_,_,_],[]⟩) rfl rfl rfl rfl ?_
      refine W.op (v := .bool false) (fr1 := ⟨[_,_,_,_,_,_,_,_,_,_,_,_,_,_,.bool false,_,_,_,_,_,_,_,_,_,_,_,_,_,_,_,_,_,_,_,_,_,_],[]⟩) rfl (p_bin (leF (by omega))) rfl rfl ?_
      refine W.op (v := .bool false) (fr1 := ⟨[_,_,_,_,_,_,_,_,_,_,_,_,_,_,_,.bool false,_,_,_,_,_,_,_,_,_,_,_,_,_,_,_,_,_,_,_,_,_],[]⟩) rfl rfl rfl rfl ?_
      refine W.op (v := .bool false) (fr1 := ⟨[_,_,_,_,_,_,_,_,_,_,_,_,_,_,_,_,.bool false,_,_,_,_,_,_,_,_,_,_,_,_,_,_,_,_,_,_,_,_],[]⟩) rfl rfl rfl rfl ?_
      refine W.op (v := .bool false) (fr1 := ⟨[_,_,_,_,_,_,_,_,_,_,_,_,_,_,_,_,_,.bool false,_,_,_,_,_,_,_,_,_,_,_,_,_,_,_,_,_,_,_],[]⟩) rfl rfl rfl rfl ?_
      refine W.op (v := .int .i32 c) (fr1 := ⟨[_,_,_,_,_,_,_,_,_,_,_,_,_,_,_,_,_,_,.int .i32 c,_,_,_,_,_,_,_,_,_,_,_,_,_,_,_,_,_,_],[]⟩) rfl rfl rfl rfl ?_
      refine W.op (v := .bool true) (fr1 := ⟨[_,_,_,_,_,_,_,_,_,_,_,_,_,_,_,_,_,_,_,.bool true,_,_,_,_,_,_,_,_,_,_,_,_,_,_,_,_,_],[]⟩) rfl (p_bin (geT (by omega))) rfl rfl ?_
      refine W.op (v := .bool true) (fr1 := ⟨[_,_,_,_,_,_,_,_,_,_,_,_,_,_,_,_,_,_,_,_,.bool true,_,_,_,_,_,_,_,_,_,_,_,_,_,_,_,_],[]⟩) rfl rfl rfl rfl ?_
      refine W.op (v := .int .i32 c) (fr1 := ⟨[_,_,_,_,_,_,_,_,_,_,_,_,_,_,_,_,_,_,_,_,_,.int .i32 c,_,_,_,_,_,_,_,_,_,_,_,_,_,_,_],[]⟩) rfl rfl rfl rfl ?_
      refine W.op (v := .bool false) (fr1 := ⟨[_,_,_,_,_,_,_,_,_,_,_,_,_,_,_,_,_,_,_,_,_,_,.bool false,_,_,_,_,_,_,_,_,_,_,_,_,_,_],[]⟩) rfl (p_bin (leF (by omega))) rfl rfl ?_
      refine W.op (v := .bool false) (fr1 := ⟨[_,_,_,_,_,_,_,_,_,_,_,_,_,_,_,_,_,_,_,_,_,_,_,.bool false,_,_,_,_,_,_,_,_,_,_,_,_,_],[]⟩) rfl rfl rfl rfl ?_
      refine W.op (v := .bool false) (fr1 := ⟨[_,_,_,_,_,_,_,_,_,_,_,_,_,_,_,_,_,_,_,_,_,_,_,_,.bool false,_,_,_,_,_,_,_,_,_,_,_,_],[]⟩) rfl rfl rfl rfl ?_
      refine W.op (v := .bool false) (fr1 := ⟨[_,_,_,_,_,_,_,_,_,_,_,_,_,_,_,_,_,_,_,_,_,_,_,_,_,.bool false,_,_,_,_,_,_,_,_,_,_,_],[]⟩) rfl rfl rfl rfl ?_
      refine W.op (v := .int .i32 c) (fr1 := ⟨[_,_,_,_,_,_,_,_,_,_,_,_,_,_,_,_,_,_,_,_,_,_,_,_,_,_,.int .i32 c,_,_,_,_,_,_,_,_,_,_],[]⟩) rfl rfl rfl rfl ?_
      refine W.op (v := .bool false) (fr1 := ⟨[_,_,_,_,_,_,_,_,_,_,_,_,_,_,_,_,_,_,_,_,_,_,_,_,_,_,_,.bool false,_,_,_,_,_,_,_,_,_],[]⟩) rfl (p_bin (eqF (by omega))) rfl rfl ?_
      refine W.op (v := .bool false) (fr1 := ⟨[_,_,_,_,_,_,_,_,_,_,_,_,_,_,_,_,_,_,_,_,_,_,_,_,_,_,_,_,.bool false,_,_,_,_,_,_,_,_],[]⟩) rfl rfl rfl rfl ?_
      refine W.op (v := .bool false) (fr1 := ⟨[_,_,_,_,_,_,_,_,_,_,_,_,_,_,_,_,_,_,_,_,_,_,_,_,_,_,_,_,_,.bool false,_,_,_,_,_,_,_],[]⟩) rfl rfl rfl rfl ?_
      refine W.op (v := .int .i32 c) (fr1 := ⟨[_,_,_,_,_,_,_,_,_,_,_,_,_,_,_,_,_,_,_,_,_,_,_,_,_,_,_,_,_,_,.int .i32 c,_,_,_,_,_,_],[]⟩) rfl rfl rfl rfl ?_
      refine W.op (v := .bool false) (fr1 := ⟨[_,_,_,_,_,_,_,_,_,_,_,_,_,_,_,_,_,_,_,_,_,_,_,_,_,_,_,_,_,_,_,.bool false,_,_,_,_,_],[]⟩) rfl (p_bin (eqF (by omega))) rfl rfl ?_
      refine W.op (v := .bool false) (fr1 := ⟨[_,_,_,_,_,_,_,_,_,_,_,_,_,_,_,_,_,_,_,_,_,_,_,_,_,_,_,_,_,_,_,_,.bool false,_,_,_,_],[]⟩) rfl rfl rfl rfl ?_
      refine W.op (v := .bool false) (fr1 := ⟨[_,_,_,_,_,_,_,_,_,_,_,_,_,_,_,_,_,_,_,_,_,_,_,_,_,_,_,_,_,_,_,_,_,.bool false,_,_,_],[]⟩) rfl rfl rfl rfl ?_
      refine W.op (v := .int .i32 c) (fr1 := ⟨[_,_,_,_,_,_,_,_,_,_,_,_,_,_,_,_,_,_,_,_,_,_,_,_,_,_,_,_,_,_,_,_,_,_,.int .i32 c,_,_],[]⟩) rfl rfl rfl rfl ?_
      refine W.op (v := .bool false) (fr1 := ⟨[_,_,_,_,_,_,_,_,_,_,_,_,_,_,_,_,_,_,_,_,_,_,_,_,_,_,_,_,_,_,_,_,_,_,_,.bool false,_],[]⟩) rfl (p_bin (eqF (by omega))) rfl rfl ?_
      refine W.op (v := .bool false) (fr1 := ⟨[_,_,_,_,_,_,_,_,_,_,_,_,_,_,_,_,_,_,_,_,_,_,_,_,_,_,_,_,_,_,_,_,_,_,_,_,.bool false],[]⟩) rfl rfl rfl rfl ?_
      refine W.op (v := .bool false) (fr1 := ⟨[_,_,.bool false,_,_,_,_,_,_,_,_,_,_,_,_,_,_,_,_,_,_,_,_,_,_,_,_,_,_,_,_,_,_,_,_,_,_],[]⟩) rfl rfl rfl rfl ?_
      refine EndsOps.nil ?_
      refine Ends.ret ?_
      exact ⟨rfl,rfl,hO0,by
        show Value.bool false = .bool (decide (PlainC c))
        exact congrArg Value.bool (decide_eq_false (by unfold PlainC; omega)).symm⟩
  · skip
    refine W.op (v := .bool false) (fr1 := ⟨[_,_,_,_,.bool false,_,_,_,_,_,_,_,_,_,_,_,_,_,_,_,_,_,_,_,_,_,_,_,_,_,_,_,_,_,_,_,_],[]⟩) rfl (p_bin (geF h1)) rfl rfl ?_
    refine W.op (v := .bool false) (fr1 := ⟨[_,_,_,_,_,.bool false,_,_,_,_,_,_,_,_,_,_,_,_,_,_,_,_,_,_,_,_,_,_,_,_,_,_,_,_,_,_,_],[]⟩) rfl rfl rfl rfl ?_
    refine W.skip (fr1 := ⟨[_,_,_,_,_,_,undef,_,_,_,_,_,_,_,_,_,_,_,_,_,_,_,_,_,_,_,_,_,_,_,_,_,_,_,_,_,_],[]⟩) rfl rfl ?_
    refine W.skip (fr1 := ⟨[_,_,_,_,_,_,_,undef,_,_,_,_,_,_,_,_,_,_,_,_,_,_,_,_,_,_,_,_,_,_,_,_,_,_,_,_,_],[]⟩) rfl rfl ?_
    refine W.op (v := .bool false) (fr1 := ⟨[_,_,_,_,_,_,_,_,.bool false,_,_,_,_,_,_,_,_,_,_,_,_,_,_,_,_,_,_,_,_,_,_,_,_,_,_,_,_],[]⟩) rfl rfl rfl rfl ?_
    refine W.op (v := .bool false) (fr1 := ⟨[_,_,_,_,_,_,_,_,_,.bool false,_,_,_,_,_,_,_,_,_,_,_,_,_,_,_,_,_,_,_,_,_,_,_,_,_,_,_],[]⟩) rfl rfl rfl rfl ?_
    refine W.op (v := .int .i32 c) (fr1 := ⟨[_,_,_,_,_,_,_,_,_,_,.int .i32 c,_,_,_,_,_,_,_,_,_,_,_,_,_,_,_,_,_,_,_,_,_,_,_,_,_,_],[]⟩) rfl rfl rfl rfl ?_
    by_cases h3 : (65 : Int) ≤ c
    · skip
      refine W.op (v := .bool true) (fr1 := ⟨[_,_,_,_,_,_,_,_,_,_,_,.bool true,_,_,_,_,_,_,_,_,_,_,_,_,_,_,_,_,_,_,_,_,_,_,_,_,_],[]⟩) rfl (p_bin (geT h3)) rfl rfl ?_
      refine W.op (v := .bool true) (fr1 := ⟨[_,_,_,_,_,_,_,_,_,_,_,_,.bool true,_,_,_,_,_,_,_,_,_,_,_,_,_,_,_,_,_,_,_,_,_,_,_,_],[]⟩) rfl rfl rfl rfl ?_
      refine W.op (v := .int .i32 c) (fr1 := ⟨[_,_,_,_,_,_,_,_,_,_,_,_,_,.int .i32 c,_,_,_,_,_,_,_,_,_,_,_,_,_,_,_,_,_,_,_,_,_,_,_],[]⟩) rfl rfl rfl rfl ?_
      by_cases h4 : c ≤ 90
      · skip
        refine W.op (v := .bool true) (fr1 := ⟨[_,_,_,_,_,_,_,_,_,_,_,_,_,_,.bool true,_,_,_,_,_,_,_,_,_,_,_,_,_,_,_,_,_,_,_,_,_,_],[]⟩) rfl (p_bin (leT h4)) rfl rfl ?_
        refine W.op (v := .bool true) (fr1 := ⟨[_,_,_,_,_,_,_,_,_,_,_,_,_,_,_,.bool true,_,_,_,_,_,_,_,_,_,_,_,_,_,_,_,_,_,_,_,_,_],[]⟩) rfl rfl rfl rfl ?_
        refine W.op (v := .bool true) (fr1 := ⟨[_,_,_,_,_,_,_,_,_,_,_,_,_,_,_,_,.bool true,_,_,_,_,_,_,_,_,_,_,_,_,_,_,_,_,_,_,_,_],[]⟩) rfl rfl rfl rfl ?_
        refine W.op (v := .bool true) (fr1 := ⟨[_,_,_,_,_,_,_,_,_,_,_,_,_,_,_,_,_,.bool true,_,_,_,_,_,_,_,_,_,_,_,_,_,_,_,_,_,_,_],[]⟩) rfl rfl rfl rfl ?_
        refine W.skip (fr1 := ⟨[_,_,_,_,_,_,_,_,_,_,_,_,_,_,_,_,_,_,undef,_,_,_,_,_,_,_,_,_,_,_,_,_,_,_,_,_,_],[]⟩) rfl rfl ?_
        refine W.skip (fr1 := ⟨[_,_,_,_,_,_,_,_,_,_,_,_,_,_,_,_,_,_,_,undef,_,_,_,_,_,_,_,_,_,_,_,_,_,_,_,_,_],[]⟩) rfl rfl ?_
        refine W.skip (fr1 := ⟨[_,_,_,_,_,_,_,_,_,_,_,_,_,_,_,_,_,_,_,_,undef,_,_,_,_,_,_,_,_,_,_,_,_,_,_,_,_],[]⟩) rfl rfl ?_
        refine W.skip (fr1 := ⟨[_,_,_,_,_,_,_,_,_,_,_,_,_,_,_,_,_,_,_,_,_,undef,_,_,_,_,_,_,_,_,_,_,_,_,_,_,_],[]⟩) rfl rfl ?_
        refine W.skip (fr1 := ⟨[_,_,_,_,_,_,_,_,_,_,_,_,_,_,_,_,_,_,_,_,_,_,undef,_,_,_,_,_,_,_,_,_,_,_,_,_,_],[]⟩) rfl rfl ?_
        refine W.skip (fr1 := ⟨[_,_,_,_,_,_,_,_,_,_,_,_,_,_,_,_,_,_,_,_,_,_,_,undef,_,_,_,_,_,_,_,_,_,_,_,_,_],[]⟩) rfl rfl ?_
        refine W.op (v := .bool true) (fr1 := ⟨[_,_,_,_,_,_,_,_,_,_,_,_,_,_,_,_,_,_,_,_,_,_,_,_,.bool true,_,_,_,_,_,_,_,_,_,_,_,_],[]⟩) rfl rfl rfl rfl ?_
        refine W.op (v := .bool true) (fr1 := ⟨[_,_,_,_,_,_,_,_,_,_,_,_,_,_,_,_,_,_,_,_,_,_,_,_,_,.bool true,_,_,_,_,_,_,_,_,_,_,_],[]⟩) rfl rfl rfl rfl ?_
        refine W.skip (fr1 := ⟨[_,_,_,_,_,_,_,_,_,_,_,_,_,_,_,_,_,_,_,_,_,_,_,_,_,_,undef,_,_,_,_,_,_,_,_,_,_],[]⟩) rfl rfl ?_
        refine W.skip (fr1 := ⟨[_,_,_,_,_,_,_,_,_,_,_,_,_,_,_,_,_,_,_,_,_,_,_,_,_,_,_,undef,_,_,_,_,_,_,_,_,_],[]⟩) rfl rfl ?_
        refine W.op (v := .bool true) (fr1 := ⟨[_,_,_,_,_,_,_,_,_,_,_,_,_,_,_,_,_,_,_,_,_,_,_,_,_,_,_,_,.bool true,_,_,_,_,_,_,_,_],[]⟩) rfl rfl rfl rfl ?_
        refine W.op (v := .bool true) (fr1 := ⟨[_,_,_,_,_,_,_,_,_,_,_,_,_,_,_,_,_,_,_,_,_,_,_,_,_,_,_,_,_,.bool true,_,_,_,_,_,_,_],[]⟩) rfl rfl rfl rfl ?_
        refine W.skip (fr1 := ⟨[_,_,_,_,_,_,_,_,_,_,_,_,_,_,_,_,_,_,_,_,_,_,_,_,_,_,_,_,_,_,undef,_,_,_,_,_,_],[]⟩) rfl rfl ?_
        refine W.skip (fr1 := ⟨[_,_,_,_,_,_,_,_,_,_,_,_,_,_,_,_,_,_,_,_,_,_,_,_,_,_,_,_,_,_,_,undef,_,_,_,_,_],[]⟩) rfl rfl ?_
        refine W.op (v := .bool true) (fr1 := ⟨[_,_,_,_,_,_,_,_,_,_,_,_,_,_,_,_,_,_,_,_,_,_,_,_,_,_,_,_,_,_,_,_,.bool true,_,_,_,_],[]⟩) rfl rfl rfl rfl ?_
        refine W.op (v := .bool true) (fr1 := ⟨[_,_,_,_,_,_,_,_,_,_,_,_,_,_,_,_,_,_,_,_,_,_,_,_,_,_,_,_,_,_,_,_,_,.bool true,_,_,_],[]⟩) rfl rfl rfl rfl ?_
        refine W.skip (fr1 := ⟨[_,_,_,_,_,_,_,_,_,_,_,_,_,_,_,_,_,_,_,_,_,_,_,_,_,_,_,_,_,_,_,_,_,_,undef,_,_],[]⟩) rfl rfl ?_
        refine W.skip (fr1 := ⟨[_,_,_,_,_,_,_,_,_,_,_,_,_,_,_,_,_,_,_,_,_,_,_,_,_,_,_,_,_,_,_,_,_,_,_,undef,_],[]⟩) rfl rfl ?_
        refine W.op (v := .bool true) (fr1 := ⟨[_,_,_,_,_,_,_,_,_,_,_,_,_,_,_,_,_,_,_,_,_,_,_,_,_,_,_,_,_,_,_,_,_,_,_,_,.bool true],[]⟩) rfl rfl rfl rfl ?_
        refine W.op (v := .bool true) (fr1 := ⟨[_,_,.bool true,_,_,_,_,_,_,_,_,_,_,_,_,_,_,_,_,_,_,_,_,_,_,_,_,_,_,_,_,_,_,_,_,_,_],[]⟩) rfl rfl rfl rfl ?_
        refine EndsOps.nil ?_
        refine Ends.ret ?_
        exact ⟨rfl,rfl,hO0,by
          show Value.bool true = .bool (decide (PlainC c))
          exact congrArg Value.bool (decide_eq_true (by unfold PlainC; omega)).symm⟩
      · skip
        refine W.op (v := .bool false) (fr1 := ⟨[_,_,_,_,_,_,_,_,_,_,_,_,_,_,.bool false,_,_,_,_,_,_,_,_,_,_,_,_,_,_,_,_,_,_,_,_,_,_],[]⟩) rfl (p_bin (leF h4)) rfl rfl ?_
        refine W.op (v := .bool false) (fr1 := ⟨[_,_,_,_,_,_,_,_,_,_,_,_,_,_,_,.bool false,_,_,_,_,_,_,_,_,_,_,_,_,_,_,_,_,_,_,_,_,_],[]⟩) rfl rfl rfl rfl ?_
        refine W.op (v := .bool false) (fr1 := ⟨[_,_,_,_,_,_,_,_,_,_,_,_,_,_,_,_,.bool false,_,_,_,_,_,_,_,_,_,_,_,_,_,_,_,_,_,_,_,_],[]⟩) rfl rfl rfl rfl ?_
        refine W.op (v := .bool false) (fr1 := ⟨[_,_,_,_,_,_,_,_,_,_,_,_,_,_,_,_,_,.bool false,_,_,_,_,_,_,_,_,_,_,_,_,_,_,_,_,_,_,_],[]⟩) rfl rfl rfl rfl ?_
        refine W.op (v := .int .i32 c) (fr1 := ⟨[_,_,_,_,_,_,_,_,_,_,_,_,_,_,_,_,_,_,.int .i32 c,_,_,_,_,_,_,_,_,_,_,_,_,_,_,_,_,_,_],[]⟩) rfl rfl rfl rfl ?_
        refine W.op (v := .bool true) (fr1 := ⟨[_,_,_,_,_,_,_,_,_,_,_,_,_,_,_,_,_,_,_,.bool true,_,_,_,_,_,_,_,_,_,_,_,_,_,_,_,_,_],[]⟩) rfl (p_bin (geT (by omega))) rfl rfl ?_
        refine W.op (v := .bool true) (fr1 := ⟨[_,_,_,_,_,_,_,_,_,_,_,_,_,_,_,_,_,_,_,_,.bool true,_,_,_,_,_,_,_,_,_,_,_,_,_,_,_,_],[]⟩) rfl rfl rfl rfl ?_
        refine W.op (v := .int .i32 c) (fr1 := ⟨[_,_,_,_,_,_,_,_,_,_,_,_,_,_,_,_,_,_,_,_,_,.int .i32 c,_,_,_,_,_,_,_,_,_,_,_,_,_,_,_],[]⟩) rfl rfl rfl rfl ?_
        refine W.op (v := .bool false) (fr1 := ⟨[_,_,_,_,_,_,_,_,_,_,_,_,_,_,_,_,_,_,_,_,_,_,.bool false,_,_,_,_,_,_,_,_,_,_,_,_,_,_],[]⟩) rfl (p_bin (leF (by omega))) rfl rfl ?_
        refine W.op (v := .bool false) (fr1 := ⟨[_,_,_,_,_,_,_,_,_,_,_,_,_,_,_,_,_,_,_,_,_,_,_,.bool false,_,_,_,_,_,_,_,_,_,_,_,_,_],[]⟩) rfl rfl rfl rfl ?_
        refine W.op (v := .bool false) (fr1 := ⟨[_,_,_,_,_,_,_,_,_,_,_,_,_,_,_,_,_,_,_,_,_,_,_,_,.bool false,_,_,_,_,_,_,_,_,_,_,_,_],[]⟩) rfl rfl rfl rfl ?_
        refine W.op (v := .bool false) (fr1 := ⟨[_,_,_,_,_,_,_,_,_,_,_,_,_,_,_,_,_,_,_,_,_,_,_,_,_,.bool false,_,_,_,_,_,_,_,_,_,_,_],[]⟩) rfl rfl rfl rfl ?_
        refine W.op (v := .int .i32 c) (fr1 := ⟨[_,_,_,_,_,_,_,_,_,_,_,_,_,_,_,_,_,_,_,_,_,_,_,_,_,_,.int .i32 c,_,_,_,_,_,_,_,_,_,_],[]⟩) rfl rfl rfl rfl ?_
        refine W.op (v := .bool false) (fr1 := ⟨[_,_,_,_,_,_,_,_,_,_,_,_,_,_,_,_,_,_,_,_,_,_,_,_,_,_,_,.bool false,_,_,_,_,_,_,_,_,_],[]⟩) rfl (p_bin (eqF (by omega))) rfl rfl ?_
        refine W.op (v := .bool false) (fr1 := ⟨[_,_,_,_,_,_,_,_,_,_,_,_,_,_,_,_,_,_,_,_,_,_,_,_,_,_,_,_,.bool false,_,_,_,_,_,_,_,_],[]⟩) rfl rfl rfl rfl ?_
        refine W.op (v := .bool false) (fr1 := ⟨[_,_,_,_,_,_,_,_,_,_,_,_,_,_,_,_,_,_,_,_,_,_,_,_,_,_,_,_,_,.bool false,_,_,_,_,_,_,_],[]⟩) rfl rfl rfl rfl ?_
        refine W.op (v := .int .i32 c) (fr1 := ⟨[_,_,_,_,_,_,_,_,_,_,_,_,_,_,_,_,_,_,_,_,_,_,_,_,_,_,_,_,_,_,.int .i32 c,_,_,_,_,_,_],[]⟩) rfl rfl rfl rfl ?_
        refine W.op (v := .bool false) (fr1 := ⟨[_,_,_,_,_,_,_,_,_,_,_,_,_,_,_,_,_,_,_,_,_,_,_,_,_,_,_,_,_,_,_,.bool false,_,_,_,_,_],[]⟩) rfl (p_bin (eqF (by omega))) rfl rfl ?_
        refine W.op (v := .bool false) (fr1 := ⟨[_,_,_,_,_,_,_,_,_,_,_,_,_,_,_,_,_,_,_,_,_,_,_,_,_,_,_,_,_,_,_,_,.bool false,_,_,_,_],[]⟩) rfl rfl rfl rfl ?_
        refine W.op (v := .bool false) (fr1 := ⟨[_,_,_,_,_,_,_,_,_,_,_,_,_,_,_,_,_,_,_,_,_,_,_,_,_,_,_,_,_,_,_,_,_,.bool false,_,_,_],[]⟩) rfl rfl rfl rfl ?_
        refine W.op (v := .int .i32 c) (fr1 := ⟨[_,_,_,_,_,_,_,_,_,_,_,_,_,_,_,_,_,_,_,_,_,_,_,_,_,_,_,_,_,_,_,_,_,_,.int .i32 c,_,_],[]⟩) rfl rfl rfl rfl ?_
        by_cases h5 : c = 95
        · skip
          refine W.op (v := .bool true) (fr1 := ⟨[_,_,_,_,_,_,_,_,_,_,_,_,_,_,_,_,_,_,_,_,_,_,_,_,_,_,_,_,_,_,_,_,_,_,_,.bool true,_],[]⟩) rfl (p_bin (eqT h5)) rfl rfl ?_
          refine W.op (v := .bool true) (fr1 := ⟨[_,_,_,_,_,_,_,_,_,_,_,_,_,_,_,_,_,_,_,_,_,_,_,_,_,_,_,_,_,_,_,_,_,_,_,_,.bool true],[]⟩) rfl rfl rfl rfl ?_
          refine W.op (v := .bool true) (fr1 := ⟨[_,_,.bool true,_,_,_,_,_,_,_,_,_,_,_,_,_,_,_,_,_,_,_,_,_,_,_,_,_,_,_,_,_,_,_,_,_,_],[]⟩) rfl rfl rfl rfl ?_
          refine EndsOps.nil ?_
          refine Ends.ret ?_
          exact ⟨rfl,rfl,hO0,by
            show Value.bool true = .bool (decide (PlainC c))
            exact congrArg Value.bool (decide_eq_true (by unfold PlainC; omega)).symm⟩
        · skip
          refine W.op (v := .bool false) (fr1 := ⟨[_,_,_,_,_,_,_,_,_,_,_,_,_,_,_,_,_,_,_,_,_,_,_,_,_,_,_,_,_,_,_,_,_,_,_,.bool false,_],[]⟩) rfl (p_bin (eqF h5)) rfl rfl ?_
          refine W.op (v := .bool false) (fr1 := ⟨[_,_,_,_,_,_,_,_,_,_,_,_,_,_,_,_,_,_,_,_,_,_,_,_,_,_,_,_,_,_,_,_,_,_,_,_,.bool false],[]⟩) rfl rfl rfl rfl ?_
          refine W.op (v := .bool false) (fr1 := ⟨[_,_,.bool false,_,_,_,_,_,_,_,_,_,_,_,_,_,_,_,_,_,_,_,_,_,_,_,_,_,_,_,_,_,_,_,_,_,_],[]⟩) rfl rfl rfl rfl ?_
          refine EndsOps.nil ?_
          refine Ends.ret ?_
          exact ⟨rfl,rfl,hO0,by
            show Value.bool false = .bool (decide (PlainC c))
            exact congrArg Value.bool (decide_eq_false (by unfold PlainC; omega)).symm⟩
    · skip
      refine W.op (v := .bool false) (fr1 := ⟨[_,_,_,_,_,_,_,_,_,_,_,.bool false,_,_,_,_,_,_,_,_,_,_,_,_,_,_,_,_,_,_,_,_,_,_,_,_,_],[]⟩) rfl (p_bin (geF h3)) rfl rfl ?_
      refine W.op (v := .bool false) (fr1 := ⟨[_,_,_,_,_,_,_,_,_,_,_,_,.bool false,_,_,_,_,_,_,_,_,_,_,_,_,_,_,_,_,_,_,_,_,_,_,_,_],[]⟩) rfl rfl rfl rfl ?_
      refine W.skip (fr1 := ⟨[_,_,_,_,_,_,_,_,_,_,_,_,_,undef,_,_,_,_,_,_,_,_,_,_,_,_,_,_,_,_,_,_,_,_,_,_,_],[]⟩) rfl rfl ?_
      refine W.skip (fr1 := ⟨[_,_,_,_,_,_,_,_,_,_,_,_,_,_,undef,_,_,_,_,_,_,_,_,_,_,_,_,_,_,_,_,_,_,_,_,_,_],[]⟩) rfl rfl ?_
      refine W.op (v := .bool false) (fr1 := ⟨[_,_,_,_,_,_,_,_,_,_,_,_,_,_,_,.bool false,_,_,_,_,_,_,_,_,_,_,_,_,_,_,_,_,_,_,_,_,_],[]⟩) rfl rfl rfl rfl ?_
      refine W.op (v := .bool false) (fr1 := ⟨[_,_,_,_,_,_,_,_,_,_,_,_,_,_,_,_,.bool false,_,_,_,_,_,_,_,_,_,_,_,_,_,_,_,_,_,_,_,_],[]⟩) rfl rfl rfl rfl ?_
      refine W.op (v := .bool false) (fr1 := ⟨[_,_,_,_,_,_,_,_,_,_,_,_,_,_,_,_,_,.bool false,_,_,_,_,_,_,_,_,_,_,_,_,_,_,_,_,_,_,_],[]⟩) rfl rfl rfl rfl ?_
      refine W.op (v := .int .i32 c) (fr1 := ⟨[_,_,_,_,_,_,_,_,_,_,_,_,_,_,_,_,_,_,.int .i32 c,_,_,_,_,_,_,_,_,_,_,_,_,_,_,_,_,_,_],[]⟩) rfl rfl rfl rfl ?_
      by_cases h6 : (48 : Int) ≤ c
      · skip
        refine W.op (v := .bool true) (fr1 := ⟨[_,_,_,_,_,_,_,_,_,_,_,_,_,_,_,_,_,_,_,.bool true,_,_,_,_,_,_,_,_,_,_,_,_,_,_,_,_,_],[]⟩) rfl (p_bin (geT h6)) rfl rfl ?_
        refine W.op (v := .bool true) (fr1 := ⟨[_,_,_,_,_,_,_,_,_,_,_,_,_,_,_,_,_,_,_,_,.bool true,_,_,_,_,_,_,_,_,_,_,_,_,_,_,_,_],[]⟩) rfl rfl rfl rfl ?_
        refine W.op (v := .int .i32 c) (fr1 := ⟨[_,_,_,_,_,_,_,_,_,_,_,_,_,_,_,_,_,_,_,_,_,.int .i32 c,_,_,_,_,_,_,_,_,_,_,_,_,_,_,_],[]⟩) rfl rfl rfl rfl ?_
        by_cases h7 : c ≤ 57
        · skip
          refine W.op (v := .bool true) (fr1 := ⟨[_,_,_,_,_,_,_,_,_,_,_,_,_,_,_,_,_,_,_,_,_,_,.bool true,_,_,_,_,_,_,_,_,_,_,_,_,_,_],[]⟩) rfl (p_bin (leT h7)) rfl rfl ?_
          refine W.op (v := .bool true) (fr1 := ⟨[_,_,_,_,_,_,_,_,_,_,_,_,_,_,_,_,_,_,_,_,_,_,_,.bool true,_,_,_,_,_,_,_,_,_,_,_,_,_],[]⟩) rfl rfl rfl rfl ?_
          refine W.op (v := .bool true) (fr1 := ⟨[_,_,_,_,_,_,_,_,_,_,_,_,_,_,_,_,_,_,_,_,_,_,_,_,.bool true,_,_,_,_,_,_,_,_,_,_,_,_],[]⟩) rfl rfl rfl rfl ?_
          refine W.op (v := .bool true) (fr1 := ⟨[_,_,_,_,_,_,_,_,_,_,_,_,_,_,_,_,_,_,_,_,_,_,_,_,_,.bool true,_,_,_,_,_,_,_,_,_,_,_],[]⟩) rfl rfl rfl rfl ?_
          refine W.skip (fr1 := ⟨[_,_,_,_,_,_,_,_,_,_,_,_,_,_,_,_,_,_,_,_,_,_,_,_,_,_,undef,_,_,_,_,_,_,_,_,_,_],[]⟩) rfl rfl ?_
          refine W.skip (fr1 := ⟨[_,_,_,_,_,_,_,_,_,_,_,_,_,_,_,_,_,_,_,_,_,_,_,_,_,_,_,undef,_,_,_,_,_,_,_,_,_],[]⟩) rfl rfl ?_
          refine W.op (v := .bool true) (fr1 := ⟨[_,_,_,_,_,_,_,_,_,_,_,_,_,_,_,_,_,_,_,_,_,_,_,_,_,_,_,_,.bool true,_,_,_,_,_,_,_,_],[]⟩) rfl rfl rfl rfl ?_
          refine W.op (v := .bool true) (fr1 := ⟨[_,_,_,_,_,_,_,_,_,_,_,_,_,_,_,_,_,_,_,_,_,_,_,_,_,_,_,_,_,.bool true,_,_,_,_,_,_,_],[]⟩) rfl rfl rfl rfl ?_
          refine W.skip (fr1 := ⟨[_,_,_,_,_,_,_,_,_,_,_,_,_,_,_,_,_,_,_,_,_,_,_,_,_,_,_,_,_,_,undef,_,_,_,_,_,_],[]⟩) rfl rfl ?_
          refine W.skip (fr1 := ⟨[_,_,_,_,_,_,_,_,_,_,_,_,_,_,_,_,_,_,_,_,_,_,_,_,_,_,_,_,_,_,_,undef,_,_,_,_,_],[]⟩) rfl rfl ?_
          refine W.op (v := .bool true) (fr1 := ⟨[_,_,_,_,_,_,_,_,_,_,_,_,_,_,_,_,_,_,_,_,_,_,_,_,_,_,_,_,_,_,_,_,.bool true,_,_,_,_],[]⟩) rfl rfl rfl rfl ?_
          refine W.op (v := .bool true) (fr1 := ⟨[_,_,_,_,_,_,_,_,_,_,_,_,_,_,_,_,_,_,_,_,_,_,_,_,_,_,_,_,_,_,_,_,_,.bool true,_,_,_],[]⟩) rfl rfl rfl rfl ?_
          refine W.skip (fr1 := ⟨[_,_,_,_,_,_,_,_,_,_,_,_,_,_,_,_,_,_,_,_,_,_,_,_,_,_,_,_,_,_,_,_,_,_,undef,_,_],[]⟩) rfl rfl ?_
          refine W.skip (fr1 := ⟨[_,_,_,_,_,_,_,_,_,_,_,_,_,_,_,_,_,_,_,_,_,_,_,_,_,_,_,_,_,_,_,_,_,_,_,undef,_],[]⟩) rfl rfl ?_
          refine W.op (v := .bool true) (fr1 := ⟨[_,_,_,_,_,_,_,_,_,_,_,_,_,_,_,_,_,_,_,_,_,_,_,_,_,_,_,_,_,_,_,_,_,_,_,_,.bool true],[]⟩) rfl rfl rfl rfl ?_
          refine W.op (v := .bool true) (fr1 := ⟨[_,_,.bool true,_,_,_,_,_,_,_,_,_,_,_,_,_,_,_,_,_,_,_,_,_,_,_,_,_,_,_,_,_,_,_,_,_,_],[]⟩) rfl rfl rfl rfl ?_
          refine EndsOps.nil ?_
          refine Ends.ret ?_
          exact ⟨rfl,rfl,hO0,by
            show Value.bool true = .bool (decide (PlainC c))
            exact congrArg Value.bool (decide_eq_true (by unfold PlainC; omega)).symm⟩
        · skip
          refine W.op (v := .bool false) (fr1 := ⟨[_,_,_,_,_,_,_,_,_,_,_,_,_,_,_,_,_,_,_,_,_,_,.bool false,_,_,_,_,_,_,_,_,_,_,_,_,_,_],[]⟩) rfl (p_bin (leF h7)) rfl rfl ?_
          refine W.op (v := .bool false) (fr1 := ⟨[_,_,_,_,_,_,_,_,_,_,_,_,_,_,_,_,_,_,_,_,_,_,_,.bool false,_,_,_,_,_,_,_,_,_,_,_,_,_],[]⟩) rfl rfl rfl rfl ?_
          refine W.op (v := .bool false) (fr1 := ⟨[_,_,_,_,_,_,_,_,_,_,_,_,_,_,_,_,_,_,_,_,_,_,_,_,.bool false,_,_,_,_,_,_,_,_,_,_,_,_],[]⟩) rfl rfl rfl rfl ?_
          refine W.op (v := .bool false) (fr1 := ⟨[_,_,_,_,_,_,_,_,_,_,_,_,_,_,_,_,_,_,_,_,_,_,_,_,_,.bool false,_,_,_,_,_,_,_,_,_,_,_],[]⟩) rfl rfl rfl rfl ?_
          refine W.op (v := .int .i32 c) (fr1 := ⟨[_,_,_,_,_,_,_,_,_,_,_,_,_,_,_,_,_,_,_,_,_,_,_,_,_,_,.int .i32 c,_,_,_,_,_,_,_,_,_,_],[]⟩) rfl rfl rfl rfl ?_
          refine W.op (v := .bool false) (fr1 := ⟨[_,_,_,_,_,_,_,_,_,_,_,_,_,_,_,_,_,_,_,_,_,_,_,_,_,_,_,.bool false,_,_,_,_,_,_,_,_,_],[]⟩) rfl (p_bin (eqF (by omega))) rfl rfl ?_
          refine W.op (v := .bool false) (fr1 := ⟨[_,_,_,_,_,_,_,_,_,_,_,_,_,_,_,_,_,_,_,_,_,_,_,_,_,_,_,_,.bool false,_,_,_,_,_,_,_,_],[]⟩) rfl rfl rfl rfl ?_
          refine W.op (v := .bool false) (fr1 := ⟨[_,_,_,_,_,_,_,_,_,_,_,_,_,_,_,_,_,_,_,_,_,_,_,_,_,_,_,_,_,.bool false,_,_,_,_,_,_,_],[]⟩) rfl rfl rfl rfl ?_
          refine W.op (v := .int .i32 c) (fr1 := ⟨[_,_,_,_,_,_,_,_,_,_,_,_,_,_,_,_,_,_,_,_,_,_,_,_,_,_,_,_,_,_,.int .i32 c,_,_,_,_,_,_],[]⟩) rfl rfl rfl rfl ?_
          refine W.op (v := .bool false) (fr1 := ⟨[_,_,_,_,_,_,_,_,_,_,_,_,_,_,_,_,_,_,_,_,_,_,_,_,_,_,_,_,_,_,_,.bool false,_,_,_,_,_],[]⟩) rfl (p_bin (eqF (by omega))) rfl rfl ?_
          refine W.op (v := .bool false) (fr1 := ⟨[_,_,_,_,_,_,_,_,_,_,_,_,_,_,_,_,_,_,_,_,_,_,_,_,_,_,_,_,_,_,_,_,.bool false,_,_,_,_],[]⟩) rfl rfl rfl rfl ?_
          refine W.op (v := .bool false) (fr1 := ⟨[_,_,_,_,_,_,_,_,_,_,_,_,_,_,_,_,_,_,_,_,_,_,_,_,_,_,_,_,_,_,_,_,_,.bool false,_,_,_],[]⟩) rfl rfl rfl rfl ?_
          refine W.op (v := .int .i32 c) (fr1 := ⟨[_,_,_,_,_,_,_,_,_,_,_,_,_,_,_,_,_,_,_,_,_,_,_,_,_,_,_,_,_,_,_,_,_,_,.int .i32 c,_,_],[]⟩) rfl rfl rfl rfl ?_
          refine W.op (v := .bool false) (fr1 := ⟨[_,_,_,_,_,_,_,_,_,_,_,_,_,_,_,_,_,_,_,_,_,_,_,_,_,_,_,_,_,_,_,_,_,_,_,.bool false,_],[]⟩) rfl (p_bin (eqF (by omega))) rfl rfl ?_
          refine W.op (v := .bool false) (fr1 := ⟨[_,_,_,_,_,_,_,_,_,_,_,_,_,_,_,_,_,_,_,_,_,_,_,_,_,_,_,_,_,_,_,_,_,_,_,_,.bool false],[]⟩) rfl rfl rfl rfl ?_
          refine W.op (v := .bool false) (fr1 := ⟨[_,_,.bool false,_,_,_,_,_,_,_,_,_,_,_,_,_,_,_,_,_,_,_,_,_,_,_,_,_,_,_,_,_,_,_,_,_,_],[]⟩) rfl rfl rfl rfl ?_
          refine EndsOps.nil ?_
          refine Ends.ret ?_
          exact ⟨rfl,rfl,hO0,by
            show Value.bool false = .bool (decide (PlainC c))
            exact congrArg Value.bool (decide_eq_false (by unfold PlainC; omega)).symm⟩
      · skip
        refine W.op (v := .bool false) (fr1 := ⟨[_,_,_,_,_,_,_,_,_,_,_,_,_,_,_,_,_,_,_,.bool false,_,_,_,_,_,_,_,_,_,_,_,_,_,_,_,_,_],[]⟩) rfl (p_bin (geF h6)) rfl rfl ?_
        refine W.op (v := .bool false) (fr1 := ⟨[_,_,_,_,_,_,_,_,_,_,_,_,_,_,_,_,_,_,_,_,.bool false,_,_,_,_,_,_,_,_,_,_,_,_,_,_,_,_],[]⟩) rfl rfl rfl rfl ?_
        refine W.skip (fr1 := ⟨[_,_,_,_,_,_,_,_,_,_,_,_,_,_,_,_,_,_,_,_,_,undef,_,_,_,_,_,_,_,_,_,_,_,_,_,_,_],[]⟩) rfl rfl ?_
        refine W.skip (fr1 := ⟨[_,_,_,_,_,_,_,_,_,_,_,_,_,_,_,_,_,_,_,_,_,_,undef,_,_,_,_,_,_,_,_,_,_,_,_,_,_],[]⟩) rfl rfl ?_
        refine W.op (v := .bool false) (fr1 := ⟨[_,_,_,_,_,_,_,_,_,_,_,_,_,_,_,_,_,_,_,_,_,_,_,.bool false,_,_,_,_,_,_,_,_,_,_,_,_,_],[]⟩) rfl rfl rfl rfl ?_
        refine W.op (v := .bool false) (fr1 := ⟨[_,_,_,_,_,_,_,_,_,_,_,_,_,_,_,_,_,_,_,_,_,_,_,_,.bool false,_,_,_,_,_,_,_,_,_,_,_,_],[]⟩) rfl rfl rfl rfl ?_
        refine W.op (v := .bool false) (fr1 := ⟨[_,_,_,_,_,_,_,_,_,_,_,_,_,_,_,_,_,_,_,_,_,_,_,_,_,.bool false,_,_,_,_,_,_,_,_,_,_,_],[]⟩) rfl rfl rfl rfl ?_
        refine W.op (v := .int .i32 c) (fr1 := ⟨[_,_,_,_,_,_,_,_,_,_,_,_,_,_,_,_,_,_,_,_,_,_,_,_,_,_,.int .i32 c,_,_,_,_,_,_,_,_,_,_],[]⟩) rfl rfl rfl rfl ?_
        by_cases h8 : c = 46
        · skip
          refine W.op (v := .bool true) (fr1 := ⟨[_,_,_,_,_,_,_,_,_,_,_,_,_,_,_,_,_,_,_,_,_,_,_,_,_,_,_,.bool true,_,_,_,_,_,_,_,_,_],[]⟩) rfl (p_bin (eqT h8)) rfl rfl ?_
          refine W.op (v := .bool true) (fr1 := ⟨[_,_,_,_,_,_,_,_,_,_,_,_,_,_,_,_,_,_,_,_,_,_,_,_,_,_,_,_,.bool true,_,_,_,_,_,_,_,_],[]⟩) rfl rfl rfl rfl ?_
          refine W.op (v := .bool true) (fr1 := ⟨[_,_,_,_,_,_,_,_,_,_,_,_,_,_,_,_,_,_,_,_,_,_,_,_,_,_,_,_,_,.bool true,_,_,_,_,_,_,_],[]⟩) rfl rfl rfl rfl ?_
          refine W.skip (fr1 := ⟨[_,_,_,_,_,_,_,_,_,_,_,_,_,_,_,_,_,_,_,_,_,_,_,_,_,_,_,_,_,_,undef,_,_,_,_,_,_],[]⟩) rfl rfl ?_
          refine W.skip (fr1 := ⟨[_,_,_,_,_,_,_,_,_,_,_,_,_,_,_,_,_,_,_,_,_,_,_,_,_,_,_,_,_,_,_,undef,_,_,_,_,_],[]⟩) rfl rfl ?_
          refine W.op (v := .bool true) (fr1 := ⟨[_,_,_,_,_,_,_,_,_,_,_,_,_,_,_,_,_,_,_,_,_,_,_,_,_,_,_,_,_,_,_,_,.bool true,_,_,_,_],[]⟩) rfl rfl rfl rfl ?_
          refine W.op (v := .bool true) (fr1 := ⟨[_,_,_,_,_,_,_,_,_,_,_,_,_,_,_,_,_,_,_,_,_,_,_,_,_,_,_,_,_,_,_,_,_,.bool true,_,_,_],[]⟩) rfl rfl rfl rfl ?_
          refine W.skip (fr1 := ⟨[_,_,_,_,_,_,_,_,_,_,_,_,_,_,_,_,_,_,_,_,_,_,_,_,_,_,_,_,_,_,_,_,_,_,undef,_,_],[]⟩) rfl rfl ?_
          refine W.skip (fr1 := ⟨[_,_,_,_,_,_,_,_,_,_,_,_,_,_,_,_,_,_,_,_,_,_,_,_,_,_,_,_,_,_,_,_,_,_,_,undef,_],[]⟩) rfl rfl ?_
          refine W.op (v := .bool true) (fr1 := ⟨[_,_,_,_,_,_,_,_,_,_,_,_,_,_,_,_,_,_,_,_,_,_,_,_,_,_,_,_,_,_,_,_,_,_,_,_,.bool true],[]⟩) rfl rfl rfl rfl ?_
          refine W.op (v := .bool true) (fr1 := ⟨[_,_,.bool true,_,_,_,_,_,_,_,_,_,_,_,_,_,_,_,_,_,_,_,_,_,_,_,_,_,_,_,_,_,_,_,_,_,_],[]⟩) rfl rfl rfl rfl ?_
          refine EndsOps.nil ?_
          refine Ends.ret ?_
          exact ⟨rfl,rfl,hO0,by
            show Value.bool true = .bool (decide (PlainC c))
            exact congrArg Value.bool (decide_eq_true (by unfold PlainC; omega)).symm⟩
        · skip
          refine W.op (v := .bool false) (fr1 := ⟨[_,_,_,_,_,_,_,_,_,_,_,_,_,_,_,_,_,_,_,_,_,_,_,_,_,_,_,.bool false,_,_,_,_,_,_,_,_,_],[]⟩) rfl (p_bin (eqF h8)) rfl rfl ?_
          refine W.op (v := .bool false) (fr1 := ⟨[_,_,_,_,_,_,_,_,_,_,_,_,_,_,_,_,_,_,_,_,_,_,_,_,_,_,_,_,.bool false,_,_,_,_,_,_,_,_],[]⟩) rfl rfl rfl rfl ?_
          refine W.op (v := .bool false) (fr1 := ⟨[_,_,_,_,_,_,_,_,_,_,_,_,_,_,_,_,_,_,_,_,_,_,_,_,_,_,_,_,_,.bool false,_,_,_,_,_,_,_],[]⟩) rfl rfl rfl rfl ?_
          refine W.op (v := .int .i32 c) (fr1 := ⟨[_,_,_,_,_,_,_,_,_,_,_,_,_,_,_,_,_,_,_,_,_,_,_,_,_,_,_,_,_,_,.int .i32 c,_,_,_,_,_,_],[]⟩) rfl rfl rfl rfl ?_
          by_cases h9 : c = 45
          · skip
            refine W.op (v := .bool true) (fr1 := ⟨[_,_,_,_,_,_,_,_,_,_,_,_,_,_,_,_,_,_,_,_,_,_,_,_,_,_,_,_,_,_,_,.bool true,_,_,_,_,_],[]⟩) rfl (p_bin (eqT h9)) rfl rfl ?_
            refine W.op (v := .bool true) (fr1 := ⟨[_,_,_,_,_,_,_,_,_,_,_,_,_,_,_,_,_,_,_,_,_,_,_,_,_,_,_,_,_,_,_,_,.bool true,_,_,_,_],[]⟩) rfl rfl rfl rfl ?_
            refine W.op (v := .bool true) (fr1 := ⟨[_,_,_,_,_,_,_,_,_,_,_,_,_,_,_,_,_,_,_,_,_,_,_,_,_,_,_,_,_,_,_,_,_,.bool true,_,_,_],[]⟩) rfl rfl rfl rfl ?_
            refine W.skip (fr1 := ⟨[_,_,_,_,_,_,_,_,_,_,_,_,_,_,_,_,_,_,_,_,_,_,_,_,_,_,_,_,_,_,_,_,_,_,undef,_,_],[]⟩) rfl rfl ?_
            refine W.skip (fr1 := ⟨[_,_,_,_,_,_,_,_,_,_,_,_,_,_,_,_,_,_,_,_,_,_,_,_,_,_,_,_,_,_,_,_,_,_,_,undef,_],[]⟩) rfl rfl ?_
            refine W.op (v := .bool true) (fr1 := ⟨[_,_,_,_,_,_,_,_,_,_,_,_,_,_,_,_,_,_,_,_,_,_,_,_,_,_,_,_,_,_,_,_,_,_,_,_,.bool true],[]⟩) rfl rfl rfl rfl ?_
            refine W.op (v := .bool true) (fr1 := ⟨[_,_,.bool true,_,_,_,_,_,_,_,_,_,_,_,_,_,_,_,_,_,_,_,_,_,_,_,_,_,_,_,_,_,_,_,_,_,_],[]⟩) rfl rfl rfl rfl ?_
            refine EndsOps.nil ?_
            refine Ends.ret ?_
            exact ⟨rfl,rfl,hO0,by
              show Value.bool true = .bool (decide (PlainC c))
              exact congrArg Value.bool (decide_eq_true (by unfold PlainC; omega)).symm⟩
          · skip
            refine W.op (v := .bool false) (fr1 := ⟨[_,_,_,_,_,_,_,_,_,_,_,_,_,_,_,_,_,_,_,_,_,_,_,_,_,_,_,_,_,_,_,.bool false,_,_,_,_,_],[]⟩) rfl (p_bin (eqF h9)) rfl rfl ?_
            refine W.op (v := .bool false) (fr1 := ⟨[_,_,_,_,_,_,_,_,_,_,_,_,_,_,_,_,_,_,_,_,_,_,_,_,_,_,_,_,_,_,_,_,.bool false,_,_,_,_],[]⟩) rfl rfl rfl rfl ?_
            refine W.op (v := .bool false) (fr1 := ⟨[_,_,_,_,_,_,_,_,_,_,_,_,_,_,_,_,_,_,_,_,_,_,_,_,_,_,_,_,_,_,_,_,_,.bool false,_,_,_],[]⟩) rfl rfl rfl rfl ?_
            refine W.op (v := .int .i32 c) (fr1 := ⟨[_,_,_,_,_,_,_,_,_,_,_,_,_,_,_,_,_,_,_,_,_,_,_,_,_,_,_,_,_,_,_,_,_,_,.int .i32 c,_,_],[]⟩) rfl rfl rfl rfl ?_
            refine W.op (v := .bool false) (fr1 := ⟨[_,_,_,_,_,_,_,_,_,_,_,_,_,_,_,_,_,_,_,_,_,_,_,_,_,_,_,_,_,_,_,_,_,_,_,.bool false,_],[]⟩) rfl (p_bin (eqF (by omega))) rfl rfl ?_
            refine W.op (v := .bool false) (fr1 := ⟨[_,_,_,_,_,_,_,_,_,_,_,_,_,_,_,_,_,_,_,_,_,_,_,_,_,_,_,_,_,_,_,_,_,_,_,_,.bool false],[]⟩) rfl rfl rfl rfl ?_
            refine W.op (v := .bool false) (fr1 := ⟨[_,_,.bool false,_,_,_,_,_,_,_,_,_,_,_,_,_,_,_,_,_,_,_,_,_,_,_,_,_,_,_,_,_,_,_,_,_,_],[]⟩) rfl rfl rfl rfl ?_
            refine EndsOps.nil ?_
            refine Ends.ret ?_
            exact ⟨rfl,rfl,hO0,by
              show Value.bool false = .bool (decide (PlainC c))
              exact congrArg Value.bool (decide_eq_false (by unfold PlainC; omega)).symm⟩
theorem c96 (c : Int) (s : St) : EndsPure R1.T 96 [.int .i32 c] s (fun v _ _ => v = .bool (decide (¬ PlainC c))) := by
  refine EndsPure.of (rs := [2]) (fr0 := ⟨[.int .i32 c,undef,undef,undef,undef,undef],[]⟩) (by kernel_rfl : R1.T.fn 96 = some ⟨6,(Try.f96.body).getD .skip,[.tmp 2]⟩) rfl ?_
  have hO0 := Own.refl s
  simp only [Try.f96,Option.getD]
  refine Ends.seq ?_
  refine Ends.region ?_
  refine W.op (v := .bool false) (fr1 := ⟨[_,_,.bool false,_,_,_],[]⟩) rfl rfl rfl rfl ?_
  refine EndsOps.nil ?_
  refine Ends.seq ?_
  refine Ends.region ?_
  refine W.op (v := .int .i32 c) (fr1 := ⟨[_,_,_,.int .i32 c,_,_],[]⟩) rfl rfl rfl rfl ?_
  by_cases h1 : PlainC c
  · skip
    refine W.call (ar := [.int .i32 c]) (X := .bool true) (fr1 := ⟨[_,_,_,_,.bool true,_],[]⟩) hO0 rfl rfl rfl rfl ((c97 c _).mono fun v _ _ h => h.trans (congrArg Value.bool (decide_eq_true h1))) rfl ?_
    intro s2 hO3 hS4
    refine W.op (v := .bool false) (fr1 := ⟨[_,_,_,_,_,.bool false],[]⟩) rfl rfl rfl rfl ?_
    refine W.op (v := .bool false) (fr1 := ⟨[_,_,.bool false,_,_,_],[]⟩) rfl rfl rfl rfl ?_
    refine EndsOps.nil ?_
    refine Ends.ret ?_
    exact ⟨rfl,rfl,hO3,by
      show Value.bool false = .bool (decide (¬ PlainC c))
      simp only [not_true,not_false_iff,decide_true,decide_false, *]⟩
  · skip
    refine W.call (ar := [.int .i32 c]) (X := .bool false) (fr1 := ⟨[_,_,_,_,.bool false,_],[]⟩) hO0 rfl rfl rfl rfl ((c97 c _).mono fun v _ _ h => h.trans (congrArg Value.bool (decide_eq_false h1))) rfl ?_
    intro s5 hO6 hS7
    refine W.op (v := .bool true) (fr1 := ⟨[_,_,_,_,_,.bool true],[]⟩) rfl rfl rfl rfl ?_
    refine W.op (v := .bool true) (fr1 := ⟨[_,_,.bool true,_,_,_],[]⟩) rfl rfl rfl rfl ?_
    refine EndsOps.nil ?_
    refine Ends.ret ?_
    exact ⟨rfl,rfl,hO6,by
      show Value.bool true = .bool (decide (¬ PlainC c))
      simp only [not_true,not_false_iff,decide_true,decide_false, *]⟩
theorem c104 (x : ByteArray) (s : St) : EndsPure R1.T 104 [.string x,.func (.func 96) ⟨[]⟩ ⟨[]⟩,.bool true] s (fun v _ _ => v = .int .i64 (badS x)) := by
  refine EndsPure.of (rs := [6]) (fr0 := ⟨[.string x,.func (.func 96) ⟨[]⟩ ⟨[]⟩,.bool true,undef,undef,undef,undef,undef,undef,undef,undef,undef,undef,undef,undef,undef,undef,undef,undef,undef,undef],[]⟩) (by kernel_rfl : R1.T.fn 104 = some ⟨21,(Try.f104.body).getD .skip,[.tmp 6]⟩) rfl ?_
  have hO0 := Own.refl s
  simp only [Try.f104,Option.getD]
  refine Ends.seq ?_
  refine Ends.region ?_
  refine W.op (v := .int .i64 0) (fr1 := ⟨[_,_,_,_,_,_,.int .i64 0,_,_,_,_,_,_,_,_,_,_,_,_,_,_],[]⟩) rfl rfl rfl rfl ?_
  refine EndsOps.nil ?_
  refine Ends.seq ?_
  refine Ends.seq ?_
  refine Ends.region ?_
  refine W.op (v := .string x) (fr1 := ⟨[_,_,_,_,_,_,_,_,_,.string x,_,_,_,_,_,_,_,_,_,_,_],[]⟩) rfl rfl rfl rfl ?_
  obtain ⟨N1,hN2⟩ : ∃ N,N = s.next := ⟨_,rfl⟩
  refine W.range (N := N1) (fr1 := ⟨[_,_,_,_,_,_,_,_,_,_,.pointer (some ⟨N1,0,none⟩),_,_,_,_,_,_,_,_,_,_],[]⟩) hO0 hN2 rfl rfl rfl rfl rfl ?_
  intro s3 hO4 hS5 ob6 hB7
  refine EndsOps.nil ?_
  refine W.block ?_
  refine Ends.loopInv (fun d fr s1 => ∃ (i : Nat) (j6 j7 j8 j11 j12 j13 j14 j15 j16 j17 j18 j19 j20 : Value),fr = ⟨[.string x,.func (.func 96) ⟨[]⟩ ⟨[]⟩,.bool true,undef,undef,undef,j6,j7,j8,.string x,.pointer (some ⟨N1,0,none⟩),j11,j12,j13,j14,j15,j16,j17,j18,j19,j20],[]⟩ ∧ Own s s1 ∧ d = (B x).length - i ∧ (i ≤ (B x).length) ∧ (NoB (fun b => ¬ PlainB b) (B x) i) ∧ (Ob s1.t s1.next N1 (.stringIter x i))) ?_ _ _ _ ⟨0,_,_,_,_,_,_,_,_,_,_,_,_,_,rfl,hO4,rfl,Nat.zero_le _,NoB.zero,ob6⟩
  rintro d _ s8 ⟨i,j6,j7,j8,j11,j12,j13,j14,j15,j16,j17,j18,j19,j20,rfl,hO9,hd10,hi,hn,hob⟩
  refine Ends.seq ?_
  refine Ends.region ?_
  by_cases h11 : i < x.size
  · skip
    refine W.nextT (fr1 := ⟨[_,_,_,_,_,_,_,_,_,_,_,.tuple ⟨[.bool true,.int .i64 ((i : Nat) : Int),.int .i32 (((Utf8.decode x i).1 : Nat) : Int)]⟩,_,_,_,_,_,_,_,_,_],[]⟩) hO9 hob hB7 rfl rfl rfl h11 rfl ?_
    intro s12 hO13 hn14 hu15 ob16
    obtain ⟨e17,he18⟩ := ex_at (l := B x) (i := i) h11
    refine W.op (v := .bool true) (fr1 := ⟨[_,_,_,_,_,_,_,_,_,_,_,_,.bool true,_,_,_,_,_,_,_,_],[]⟩) rfl rfl rfl rfl ?_
    refine EndsOps.nil ?_
    refine Ends.seq ?_
    refine Ends.condT rfl ?_
    refine Ends.skip ?_
    refine W.block ?_
    refine Ends.seq ?_
    refine Ends.region ?_
    refine W.op (v := .int .i64 ((i : Nat) : Int)) (fr1 := ⟨[_,_,_,_,_,_,_,_,_,_,_,_,_,.int .i64 ((i : Nat) : Int),_,_,_,_,_,_,_],[]⟩) rfl rfl rfl rfl ?_
    refine W.op (v := .int .i32 (((Utf8.decode x i).1 : Nat) : Int)) (fr1 := ⟨[_,_,_,_,_,_,_,_,_,_,_,_,_,_,.int .i32 (((Utf8.decode x i).1 : Nat) : Int),_,_,_,_,_,_],[]⟩) rfl rfl rfl rfl ?_
    refine W.op (v := .int .i64 ((i : Nat) : Int)) (fr1 := ⟨[_,_,_,_,_,_,_,.int .i64 ((i : Nat) : Int),_,_,_,_,_,_,_,_,_,_,_,_,_],[]⟩) rfl rfl rfl rfl ?_
    refine W.op (v := .int .i32 (((Utf8.decode x i).1 : Nat) : Int)) (fr1 := ⟨[_,_,_,_,_,_,_,_,.int .i32 (((Utf8.decode x i).1 : Nat) : Int),_,_,_,_,_,_,_,_,_,_,_,_],[]⟩) rfl rfl rfl rfl ?_
    refine EndsOps.nil ?_
    refine Ends.seq ?_
    refine Ends.region ?_
    refine W.op (v := .func (.func 96) ⟨[]⟩ ⟨[]⟩) (fr1 := ⟨[_,_,_,_,_,_,_,_,_,_,_,_,_,_,_,.func (.func 96) ⟨[]⟩ ⟨[]⟩,_,_,_,_,_],[]⟩) rfl rfl rfl rfl ?_
    refine W.op (v := .int .i32 (((Utf8.decode x i).1 : Nat) : Int)) (fr1 := ⟨[_,_,_,_,_,_,_,_,_,_,_,_,_,_,_,_,.int .i32 (((Utf8.decode x i).1 : Nat) : Int),_,_,_,_],[]⟩) rfl rfl rfl rfl ?_
    by_cases h19 : ¬ PlainC (((Utf8.decode x i).1 : Nat) : Int)
    · skip
      refine W.call (ar := [.int .i32 (((Utf8.decode x i).1 : Nat) : Int)]) (X := .bool true) (fr1 := ⟨[_,_,_,_,_,_,_,_,_,_,_,_,_,_,_,_,_,.bool true,_,_,_],[]⟩) hO13 rfl rfl rfl rfl ((c96 (((Utf8.decode x i).1 : Nat) : Int) _).mono fun v _ _ h => h.trans (congrArg Value.bool (decide_eq_true h19))) rfl ?_
      intro s20 hO21 hS22
      have ob23 := ob16.own hS22
      refine W.op (v := .bool true) (fr1 := ⟨[_,_,_,_,_,_,_,_,_,_,_,_,_,_,_,_,_,_,.bool true,_,_],[]⟩) rfl rfl rfl rfl ?_
      refine W.op (v := .bool true) (fr1 := ⟨[_,_,_,_,_,_,_,_,_,_,_,_,_,_,_,_,_,_,_,.bool true,_],[]⟩) rfl rfl rfl rfl ?_
      refine EndsOps.nil ?_
      refine Ends.condT rfl ?_
      refine Ends.seq ?_
      refine Ends.region ?_
      refine W.op (v := .int .i64 ((i : Nat) : Int)) (fr1 := ⟨[_,_,_,_,_,_,_,_,_,_,_,_,_,_,_,_,_,_,_,_,.int .i64 ((i : Nat) : Int)],[]⟩) rfl rfl rfl rfl ?_
      refine W.op (v := .int .i64 ((i : Nat) : Int)) (fr1 := ⟨[_,_,_,_,_,_,.int .i64 ((i : Nat) : Int),_,_,_,_,_,_,_,_,_,_,_,_,_,_],[]⟩) rfl rfl rfl rfl ?_
      refine EndsOps.nil ?_
      refine Ends.ret ?_
      exact ⟨rfl,rfl,hO21,by
        show Value.int .i64 ((i : Nat) : Int) = Value.int .i64 (badS x)
        rw [badS_at hn he18 (dec_bad he18 h19)]⟩
    · skip
      refine W.call (ar := [.int .i32 (((Utf8.decode x i).1 : Nat) : Int)]) (X := .bool false) (fr1 := ⟨[_,_,_,_,_,_,_,_,_,_,_,_,_,_,_,_,_,.bool false,_,_,_],[]⟩) hO13 rfl rfl rfl rfl ((c96 (((Utf8.decode x i).1 : Nat) : Int) _).mono fun v _ _ h => h.trans (congrArg Value.bool (decide_eq_false h19))) rfl ?_
      intro s24 hO25 hS26
      have ob27 := ob16.own hS26
      refine W.op (v := .bool true) (fr1 := ⟨[_,_,_,_,_,_,_,_,_,_,_,_,_,_,_,_,_,_,.bool true,_,_],[]⟩) rfl rfl rfl rfl ?_
      refine W.op (v := .bool false) (fr1 := ⟨[_,_,_,_,_,_,_,_,_,_,_,_,_,_,_,_,_,_,_,.bool false,_],[]⟩) rfl rfl rfl rfl ?_
      refine EndsOps.nil ?_
      refine Ends.condF rfl ?_
      refine Ends.skip ?_
      have hz : i < (B x).length := (List.getElem?_eq_some_iff.1 he18).1
      have hd := dec_plain he18 (Decidable.of_not_not h19)
      exact ⟨_,(by omega),i + 1,_,_,_,_,_,_,_,_,_,_,_,_,_,rfl,hO25,rfl,(List.getElem?_eq_some_iff.1 he18).1,NoB.step hn he18 (fun h => h hd.1),(by have h := ob27; rw [hd.2] at h; exact h)⟩
  · skip
    refine W.nextF (fr1 := ⟨[_,_,_,_,_,_,_,_,_,_,_,.tuple ⟨[.bool false]⟩,_,_,_,_,_,_,_,_,_],[]⟩) hob rfl rfl rfl h11 rfl ?_
    refine W.op (v := .bool false) (fr1 := ⟨[_,_,_,_,_,_,_,_,_,_,_,_,.bool false,_,_,_,_,_,_,_,_],[]⟩) rfl rfl rfl rfl ?_
    refine EndsOps.nil ?_
    refine Ends.seq ?_
    refine Ends.condF rfl ?_
    refine Ends.exit ?_
    refine W.outT rfl ?_
    refine Ends.seq ?_
    refine Ends.region ?_
    refine W.op (v := .int .i64 (-1)) (fr1 := ⟨[_,_,_,_,_,_,.int .i64 (-1),_,_,_,_,_,_,_,_,_,_,_,_,_,_],[]⟩) rfl rfl rfl rfl ?_
    refine EndsOps.nil ?_
    refine Ends.ret ?_
    exact ⟨rfl,rfl,hO9,by
      show Value.int .i64 (-1) = Value.int .i64 (badS x)
      rw [badS_none hn (Nat.le_of_not_lt h11)]⟩
theorem c103 (x : ByteArray) (s : St) : EndsPure R1.T 103 [.string x,.func (.func 96) ⟨[]⟩ ⟨[]⟩] s (fun v _ _ => v = .int .i64 (badS x)) := by
  refine EndsPure.of (rs := [4]) (fr0 := ⟨[.string x,.func (.func 96) ⟨[]⟩ ⟨[]⟩,undef,undef,undef,undef,undef,undef],[]⟩) (by kernel_rfl : R1.T.fn 103 = some ⟨8,(Try.f103.body).getD .skip,[.tmp 4]⟩) rfl ?_
  have hO0 := Own.refl s
  simp only [Try.f103,Option.getD]
  refine Ends.seq ?_
  refine Ends.region ?_
  refine W.op (v := .int .i64 0) (fr1 := ⟨[_,_,_,_,.int .i64 0,_,_,_],[]⟩) rfl rfl rfl rfl ?_
  refine EndsOps.nil ?_
  refine Ends.seq ?_
  refine Ends.region ?_
  refine W.op (v := .string x) (fr1 := ⟨[_,_,_,_,_,.string x,_,_],[]⟩) rfl rfl rfl rfl ?_
  refine W.op (v := .func (.func 96) ⟨[]⟩ ⟨[]⟩) (fr1 := ⟨[_,_,_,_,_,_,.func (.func 96) ⟨[]⟩ ⟨[]⟩,_],[]⟩) rfl rfl rfl rfl ?_
  refine W.call (ar := [.string x,.func (.func 96) ⟨[]⟩ ⟨[]⟩,.bool true]) (X := .int .i64 (badS x)) (fr1 := ⟨[_,_,_,_,_,_,_,.int .i64 (badS x)],[]⟩) hO0 rfl rfl rfl rfl (c104 x _) rfl ?_
  intro s1 hO2 hS3
  refine W.op (v := .int .i64 (badS x)) (fr1 := ⟨[_,_,_,_,.int .i64 (badS x),_,_,_],[]⟩) rfl rfl rfl rfl ?_
  refine EndsOps.nil ?_
  refine Ends.ret ?_
  exact ⟨rfl,rfl,hO2,by
    show Value.int .i64 (badS x) = Value.int .i64 (badS x)
    rfl⟩
theorem c98 (x : ByteArray) (s : St) : EndsPure R1.T 98 [.string x,.func (.func 96) ⟨[]⟩ ⟨[]⟩] s (fun v _ _ => v = .bool (decide (0 ≤ badS x))) := by
  refine EndsPure.of (rs := [4]) (fr0 := ⟨[.string x,.func (.func 96) ⟨[]⟩ ⟨[]⟩,undef,undef,undef,undef,undef,undef,undef],[]⟩) (by kernel_rfl : R1.T.fn 98 = some ⟨9,(Try.f98.body).getD .skip,[.tmp 4]⟩) rfl ?_
  have hO0 := Own.refl s
  simp only [Try.f98,Option.getD]
  refine Ends.seq ?_
  refine Ends.region ?_
  refine W.op (v := .bool false) (fr1 := ⟨[_,_,_,_,.bool false,_,_,_,_],[]⟩) rfl rfl rfl rfl ?_
  refine EndsOps.nil ?_
  refine Ends.seq ?_
  refine Ends.region ?_
  refine W.op (v := .string x) (fr1 := ⟨[_,_,_,_,_,.string x,_,_,_],[]⟩) rfl rfl rfl rfl ?_
  refine W.op (v := .func (.func 96) ⟨[]⟩ ⟨[]⟩) (fr1 := ⟨[_,_,_,_,_,_,.func (.func 96) ⟨[]⟩ ⟨[]⟩,_,_],[]⟩) rfl rfl rfl rfl ?_
  refine W.call (ar := [.string x,.func (.func 96) ⟨[]⟩ ⟨[]⟩]) (X := .int .i64 (badS x)) (fr1 := ⟨[_,_,_,_,_,_,_,.int .i64 (badS x),_],[]⟩) hO0 rfl rfl rfl rfl (c103 x _) rfl ?_
  intro s1 hO2 hS3
  by_cases h4 : (0 : Int) ≤ badS x
  · skip
    refine W.op (v := .bool true) (fr1 := ⟨[_,_,_,_,_,_,_,_,.bool true],[]⟩) rfl (p_bin (geT h4)) rfl rfl ?_
    refine W.op (v := .bool true) (fr1 := ⟨[_,_,_,_,.bool true,_,_,_,_],[]⟩) rfl rfl rfl rfl ?_
    refine EndsOps.nil ?_
    refine Ends.ret ?_
    exact ⟨rfl,rfl,hO2,by
      show Value.bool true = .bool (decide (0 ≤ badS x))
      simp only [decide_true,decide_false, *]⟩
  · skip
    refine W.op (v := .bool false) (fr1 := ⟨[_,_,_,_,_,_,_,_,.bool false],[]⟩) rfl (p_bin (geF h4)) rfl rfl ?_
    refine W.op (v := .bool false) (fr1 := ⟨[_,_,_,_,.bool false,_,_,_,_],[]⟩) rfl rfl rfl rfl ?_
    refine EndsOps.nil ?_
    refine Ends.ret ?_
    exact ⟨rfl,rfl,hO2,by
      show Value.bool false = .bool (decide (0 ≤ badS x))
      simp only [decide_true,decide_false, *]⟩
theorem c81 (x : ByteArray) (s : St) : EndsPure R1.T 81 [.string x] s (fun v _ _ => v = .bool (decide (Titled x))) := by
  refine EndsPure.of (rs := [2]) (fr0 := ⟨[.string x,undef,undef,undef,undef,undef,undef,undef,undef,undef,undef,undef,undef,undef,undef,undef,undef],[]⟩) (by kernel_rfl : R1.T.fn 81 = some ⟨17,(Try.f81.body).getD .skip,[.tmp 2]⟩) rfl ?_
  have hO0 := Own.refl s
  simp only [Try.f81,Option.getD]
  refine Ends.seq ?_
  refine Ends.region ?_
  refine W.op (v := .bool false) (fr1 := ⟨[_,_,.bool false,_,_,_,_,_,_,_,_,_,_,_,_,_,_],[]⟩) rfl rfl rfl rfl ?_
  refine EndsOps.nil ?_
  refine Ends.seq ?_
  refine Ends.region ?_
  refine W.op (v := .func (.func 96) ⟨[]⟩ ⟨[]⟩) (fr1 := ⟨[_,_,_,.func (.func 96) ⟨[]⟩ ⟨[]⟩,_,_,_,_,_,_,_,_,_,_,_,_,_],[]⟩) rfl rfl rfl rfl ?_
  refine EndsOps.nil ?_
  refine Ends.seq ?_
  refine Ends.region ?_
  refine W.op (v := .string x) (fr1 := ⟨[_,_,_,_,.string x,_,_,_,_,_,_,_,_,_,_,_,_],[]⟩) rfl rfl rfl rfl ?_
  by_cases h1 : B x = B ByteArray.empty
  · skip
    refine W.op (v := .bool false) (fr1 := ⟨[_,_,_,_,_,.bool false,_,_,_,_,_,_,_,_,_,_,_],[]⟩) rfl (p_bin (sneF h1)) rfl rfl ?_
    refine W.op (v := .bool false) (fr1 := ⟨[_,_,_,_,_,_,.bool false,_,_,_,_,_,_,_,_,_,_],[]⟩) rfl rfl rfl rfl ?_
    refine W.skip (fr1 := ⟨[_,_,_,_,_,_,_,undef,_,_,_,_,_,_,_,_,_],[]⟩) rfl rfl ?_
    refine W.skip (fr1 := ⟨[_,_,_,_,_,_,_,_,undef,_,_,_,_,_,_,_,_],[]⟩) rfl rfl ?_
    refine W.skip (fr1 := ⟨[_,_,_,_,_,_,_,_,_,undef,_,_,_,_,_,_,_],[]⟩) rfl rfl ?_
    refine W.op (v := .bool false) (fr1 := ⟨[_,_,_,_,_,_,_,_,_,_,.bool false,_,_,_,_,_,_],[]⟩) rfl rfl rfl rfl ?_
    refine W.op (v := .bool false) (fr1 := ⟨[_,_,_,_,_,_,_,_,_,_,_,.bool false,_,_,_,_,_],[]⟩) rfl rfl rfl rfl ?_
    refine W.skip (fr1 := ⟨[_,_,_,_,_,_,_,_,_,_,_,_,undef,_,_,_,_],[]⟩) rfl rfl ?_
    refine W.skip (fr1 := ⟨[_,_,_,_,_,_,_,_,_,_,_,_,_,undef,_,_,_],[]⟩) rfl rfl ?_
    refine W.skip (fr1 := ⟨[_,_,_,_,_,_,_,_,_,_,_,_,_,_,undef,_,_],[]⟩) rfl rfl ?_
    refine W.skip (fr1 := ⟨[_,_,_,_,_,_,_,_,_,_,_,_,_,_,_,undef,_],[]⟩) rfl rfl ?_
    refine W.op (v := .bool false) (fr1 := ⟨[_,_,_,_,_,_,_,_,_,_,_,_,_,_,_,_,.bool false],[]⟩) rfl rfl rfl rfl ?_
    refine W.op (v := .bool false) (fr1 := ⟨[_,_,.bool false,_,_,_,_,_,_,_,_,_,_,_,_,_,_],[]⟩) rfl rfl rfl rfl ?_
    refine EndsOps.nil ?_
    refine Ends.ret ?_
    exact ⟨rfl,rfl,hO0,by
      show Value.bool false = .bool (decide (Titled x))
      simp only [Titled,not_true,not_false_iff,true_and,false_and,and_true,and_false,decide_true,decide_false, *]⟩
  · skip
    refine W.op (v := .bool true) (fr1 := ⟨[_,_,_,_,_,.bool true,_,_,_,_,_,_,_,_,_,_,_],[]⟩) rfl (p_bin (sneT h1)) rfl rfl ?_
    refine W.op (v := .bool true) (fr1 := ⟨[_,_,_,_,_,_,.bool true,_,_,_,_,_,_,_,_,_,_],[]⟩) rfl rfl rfl rfl ?_
    refine W.op (v := .string x) (fr1 := ⟨[_,_,_,_,_,_,_,.string x,_,_,_,_,_,_,_,_,_],[]⟩) rfl rfl rfl rfl ?_
    refine W.op (v := .int .i64 (((B x).length : Nat) : Int)) (fr1 := ⟨[_,_,_,_,_,_,_,_,.int .i64 (((B x).length : Nat) : Int),_,_,_,_,_,_,_,_],[]⟩) rfl rfl rfl rfl ?_
    by_cases h2 : (((B x).length : Nat) : Int) ≤ 40
    · skip
      refine W.op (v := .bool true) (fr1 := ⟨[_,_,_,_,_,_,_,_,_,.bool true,_,_,_,_,_,_,_],[]⟩) rfl (p_bin (leT h2)) rfl rfl ?_
      refine W.op (v := .bool true) (fr1 := ⟨[_,_,_,_,_,_,_,_,_,_,.bool true,_,_,_,_,_,_],[]⟩) rfl rfl rfl rfl ?_
      refine W.op (v := .bool true) (fr1 := ⟨[_,_,_,_,_,_,_,_,_,_,_,.bool true,_,_,_,_,_],[]⟩) rfl rfl rfl rfl ?_
      refine W.op (v := .string x) (fr1 := ⟨[_,_,_,_,_,_,_,_,_,_,_,_,.string x,_,_,_,_],[]⟩) rfl rfl rfl rfl ?_
      refine W.op (v := .func (.func 96) ⟨[]⟩ ⟨[]⟩) (fr1 := ⟨[_,_,_,_,_,_,_,_,_,_,_,_,_,.func (.func 96) ⟨[]⟩ ⟨[]⟩,_,_,_],[]⟩) rfl rfl rfl rfl ?_
      by_cases h3 : 0 ≤ badS x
      · skip
        refine W.call (ar := [.string x,.func (.func 96) ⟨[]⟩ ⟨[]⟩]) (X := .bool true) (fr1 := ⟨[_,_,_,_,_,_,_,_,_,_,_,_,_,_,.bool true,_,_],[]⟩) hO0 rfl rfl rfl rfl ((c98 x _).mono fun v _ _ h => h.trans (congrArg Value.bool (decide_eq_true h3))) rfl ?_
        intro s4 hO5 hS6
        refine W.op (v := .bool false) (fr1 := ⟨[_,_,_,_,_,_,_,_,_,_,_,_,_,_,_,.bool false,_],[]⟩) rfl rfl rfl rfl ?_
        refine W.op (v := .bool false) (fr1 := ⟨[_,_,_,_,_,_,_,_,_,_,_,_,_,_,_,_,.bool false],[]⟩) rfl rfl rfl rfl ?_
        refine W.op (v := .bool false) (fr1 := ⟨[_,_,.bool false,_,_,_,_,_,_,_,_,_,_,_,_,_,_],[]⟩) rfl rfl rfl rfl ?_
        refine EndsOps.nil ?_
        refine Ends.ret ?_
        exact ⟨rfl,rfl,hO5,by
          show Value.bool false = .bool (decide (Titled x))
          simp only [Titled,not_true,not_false_iff,true_and,false_and,and_true,and_false,decide_true,decide_false, *]⟩
      · skip
        refine W.call (ar := [.string x,.func (.func 96) ⟨[]⟩ ⟨[]⟩]) (X := .bool false) (fr1 := ⟨[_,_,_,_,_,_,_,_,_,_,_,_,_,_,.bool false,_,_],[]⟩) hO0 rfl rfl rfl rfl ((c98 x _).mono fun v _ _ h => h.trans (congrArg Value.bool (decide_eq_false h3))) rfl ?_
        intro s7 hO8 hS9
        refine W.op (v := .bool true) (fr1 := ⟨[_,_,_,_,_,_,_,_,_,_,_,_,_,_,_,.bool true,_],[]⟩) rfl rfl rfl rfl ?_
        refine W.op (v := .bool true) (fr1 := ⟨[_,_,_,_,_,_,_,_,_,_,_,_,_,_,_,_,.bool true],[]⟩) rfl rfl rfl rfl ?_
        refine W.op (v := .bool true) (fr1 := ⟨[_,_,.bool true,_,_,_,_,_,_,_,_,_,_,_,_,_,_],[]⟩) rfl rfl rfl rfl ?_
        refine EndsOps.nil ?_
        refine Ends.ret ?_
        exact ⟨rfl,rfl,hO8,by
          show Value.bool true = .bool (decide (Titled x))
          simp only [Titled,not_true,not_false_iff,true_and,false_and,and_true,and_false,decide_true,decide_false, *]⟩
    · skip
      refine W.op (v := .bool false) (fr1 := ⟨[_,_,_,_,_,_,_,_,_,.bool false,_,_,_,_,_,_,_],[]⟩) rfl (p_bin (leF h2)) rfl rfl ?_
      refine W.op (v := .bool false) (fr1 := ⟨[_,_,_,_,_,_,_,_,_,_,.bool false,_,_,_,_,_,_],[]⟩) rfl rfl rfl rfl ?_
      refine W.op (v := .bool false) (fr1 := ⟨[_,_,_,_,_,_,_,_,_,_,_,.bool false,_,_,_,_,_],[]⟩) rfl rfl rfl rfl ?_
      refine W.skip (fr1 := ⟨[_,_,_,_,_,_,_,_,_,_,_,_,undef,_,_,_,_],[]⟩) rfl rfl ?_
      refine W.skip (fr1 := ⟨[_,_,_,_,_,_,_,_,_,_,_,_,_,undef,_,_,_],[]⟩) rfl rfl ?_
      refine W.skip (fr1 := ⟨[_,_,_,_,_,_,_,_,_,_,_,_,_,_,undef,_,_],[]⟩) rfl rfl ?_
      refine W.skip (fr1 := ⟨[_,_,_,_,_,_,_,_,_,_,_,_,_,_,_,undef,_],[]⟩) rfl rfl ?_
      refine W.op (v := .bool false) (fr1 := ⟨[_,_,_,_,_,_,_,_,_,_,_,_,_,_,_,_,.bool false],[]⟩) rfl rfl rfl rfl ?_
      refine W.op (v := .bool false) (fr1 := ⟨[_,_,.bool false,_,_,_,_,_,_,_,_,_,_,_,_,_,_],[]⟩) rfl rfl rfl rfl ?_
      refine EndsOps.nil ?_
      refine Ends.ret ?_
      exact ⟨rfl,rfl,hO0,by
        show Value.bool false = .bool (decide (Titled x))
        simp only [Titled,not_true,not_false_iff,true_and,false_and,and_true,and_false,decide_true,decide_false, *]⟩
theorem c82 (x : ByteArray) (hx : (B x).length ≤ 140737488351232) (s : St) : EndsPure R1.T 82 [.string x] s (fun v _ _ => v = .bool (decide (Titled x))) := by
  refine EndsPure.of (rs := [2]) (fr0 := ⟨[.string x,undef,undef,undef,undef,undef,undef,undef,undef,undef,undef,undef,undef,undef,undef,undef,undef,undef,undef,undef,undef,undef,undef,undef,undef,undef,undef,undef,undef,undef,undef,undef,undef,undef,undef,undef,undef,undef,undef,undef,undef,undef,undef,undef,undef,undef,undef,undef,undef,undef,undef,undef,undef,undef,undef,undef,undef],[]⟩) (by kernel_rfl : R1.T.fn 82 = some ⟨57,(Try.f82.body).getD .skip,[.tmp 2]⟩) rfl ?_
  have hO0 := Own.refl s
  simp only [Try.f82,Option.getD]
  refine Ends.seq ?_
  refine Ends.region ?_
  refine W.op (v := .bool false) (fr1 := ⟨[_,_,.bool false,_,_,_,_,_,_,_,_,_,_,_,_,_,_,_,_,_,_,_,_,_,_,_,_,_,_,_,_,_,_,_,_,_,_,_,_,_,_,_,_,_,_,_,_,_,_,_,_,_,_,_,_,_,_],[]⟩) rfl rfl rfl rfl ?_
  refine EndsOps.nil ?_
  refine Ends.seq ?_
  refine Ends.seq ?_
  refine Ends.region ?_
  refine W.op (v := .int .i64 0) (fr1 := ⟨[_,_,_,.int .i64 0,_,_,_,_,_,_,_,_,_,_,_,_,_,_,_,_,_,_,_,_,_,_,_,_,_,_,_,_,_,_,_,_,_,_,_,_,_,_,_,_,_,_,_,_,_,_,_,_,_,_,_,_,_],[]⟩) rfl rfl rfl rfl ?_
  refine EndsOps.nil ?_
  refine W.block ?_
  refine Ends.loopInv (fun d fr s1 => ∃ (i : Nat) (j2 j4 j5 j6 j7 j8 j9 j10 j11 j12 j13 j14 j15 j16 j17 j18 j19 j20 j21 j22 j23 j24 j25 j26 j27 j28 j29 j30 j31 j32 j33 j34 j35 j36 j37 j38 j39 j40 j41 j42 j43 j44 j45 j46 j47 j48 : Value),fr = ⟨[.string x,undef,j2,.int .i64 ((i : Nat) : Int),j4,j5,j6,j7,j8,j9,j10,j11,j12,j13,j14,j15,j16,j17,j18,j19,j20,j21,j22,j23,j24,j25,j26,j27,j28,j29,j30,j31,j32,j33,j34,j35,j36,j37,j38,j39,j40,j41,j42,j43,j44,j45,j46,j47,j48,undef,undef,undef,undef,undef,undef,undef,undef],[]⟩ ∧ Own s s1 ∧ d = (B x).length - i ∧ (i ≤ (B x).length) ∧ (NoB (fun b => ¬ PlainB b) (B x) i)) ?_ _ _ _ ⟨0,_,_,_,_,_,_,_,_,_,_,_,_,_,_,_,_,_,_,_,_,_,_,_,_,_,_,_,_,_,_,_,_,_,_,_,_,_,_,_,_,_,_,_,_,_,_,rfl,hO0,rfl,Nat.zero_le _,NoB.zero⟩
  rintro d _ s1 ⟨i,j2,j4,j5,j6,j7,j8,j9,j10,j11,j12,j13,j14,j15,j16,j17,j18,j19,j20,j21,j22,j23,j24,j25,j26,j27,j28,j29,j30,j31,j32,j33,j34,j35,j36,j37,j38,j39,j40,j41,j42,j43,j44,j45,j46,j47,j48,rfl,hO2,hd3,hi,hn⟩
  refine Ends.seq ?_
  refine Ends.seq ?_
  refine Ends.region ?_
  refine W.op (v := .int .i64 ((i : Nat) : Int)) (fr1 := ⟨[_,_,_,_,_,.int .i64 ((i : Nat) : Int),_,_,_,_,_,_,_,_,_,_,_,_,_,_,_,_,_,_,_,_,_,_,_,_,_,_,_,_,_,_,_,_,_,_,_,_,_,_,_,_,_,_,_,_,_,_,_,_,_,_,_],[]⟩) rfl rfl rfl rfl ?_
  refine W.op (v := .string x) (fr1 := ⟨[_,_,_,_,_,_,.string x,_,_,_,_,_,_,_,_,_,_,_,_,_,_,_,_,_,_,_,_,_,_,_,_,_,_,_,_,_,_,_,_,_,_,_,_,_,_,_,_,_,_,_,_,_,_,_,_,_,_],[]⟩) rfl rfl rfl rfl ?_
  refine W.op (v := .int .i64 (((B x).length : Nat) : Int)) (fr1 := ⟨[_,_,_,_,_,_,_,.int .i64 (((B x).length : Nat) : Int),_,_,_,_,_,_,_,_,_,_,_,_,_,_,_,_,_,_,_,_,_,_,_,_,_,_,_,_,_,_,_,_,_,_,_,_,_,_,_,_,_,_,_,_,_,_,_,_,_],[]⟩) rfl rfl rfl rfl ?_
  by_cases h4 : ((i : Nat) : Int) < (((B x).length : Nat) : Int)
  · skip
    refine W.op (v := .bool true) (fr1 := ⟨[_,_,_,_,_,_,_,_,.bool true,_,_,_,_,_,_,_,_,_,_,_,_,_,_,_,_,_,_,_,_,_,_,_,_,_,_,_,_,_,_,_,_,_,_,_,_,_,_,_,_,_,_,_,_,_,_,_,_],[]⟩) rfl (p_bin (ltT h4)) rfl rfl ?_
    refine EndsOps.nil ?_
    refine Ends.condT rfl ?_
    refine Ends.skip ?_
    refine Ends.seq ?_
    refine W.block ?_
    refine Ends.seq ?_
    refine Ends.region ?_
    refine W.op (v := .string x) (fr1 := ⟨[_,_,_,_,_,_,_,_,_,_,_,.string x,_,_,_,_,_,_,_,_,_,_,_,_,_,_,_,_,_,_,_,_,_,_,_,_,_,_,_,_,_,_,_,_,_,_,_,_,_,_,_,_,_,_,_,_,_],[]⟩) rfl rfl rfl rfl ?_
    refine W.op (v := .int .i64 ((i : Nat) : Int)) (fr1 := ⟨[_,_,_,_,_,_,_,_,_,_,_,_,.int .i64 ((i : Nat) : Int),_,_,_,_,_,_,_,_,_,_,_,_,_,_,_,_,_,_,_,_,_,_,_,_,_,_,_,_,_,_,_,_,_,_,_,_,_,_,_,_,_,_,_,_],[]⟩) rfl rfl rfl rfl ?_
    obtain ⟨e5,he6⟩ := ex_at (l := B x) (i := i) (by omega)
    refine W.op (v := .int .u8 ((e5.toNat : Nat) : Int)) (fr1 := ⟨[_,_,_,_,_,_,_,_,_,_,_,_,_,.int .u8 ((e5.toNat : Nat) : Int),_,_,_,_,_,_,_,_,_,_,_,_,_,_,_,_,_,_,_,_,_,_,_,_,_,_,_,_,_,_,_,_,_,_,_,_,_,_,_,_,_,_,_],[]⟩) rfl (p_idxS rfl rfl rfl he6) rfl rfl ?_
    refine W.op (v := .int .u8 ((e5.toNat : Nat) : Int)) (fr1 := ⟨[_,_,_,_,.int .u8 ((e5.toNat : Nat) : Int),_,_,_,_,_,_,_,_,_,_,_,_,_,_,_,_,_,_,_,_,_,_,_,_,_,_,_,_,_,_,_,_,_,_,_,_,_,_,_,_,_,_,_,_,_,_,_,_,_,_,_,_],[]⟩) rfl rfl rfl rfl ?_
    refine EndsOps.nil ?_
    refine Ends.seq ?_
    refine Ends.region ?_
    refine W.op (v := .int .u8 ((e5.toNat : Nat) : Int)) (fr1 := ⟨[_,_,_,_,_,_,_,_,_,_,_,_,_,_,.int .u8 ((e5.toNat : Nat) : Int),_,_,_,_,_,_,_,_,_,_,_,_,_,_,_,_,_,_,_,_,_,_,_,_,_,_,_,_,_,_,_,_,_,_,_,_,_,_,_,_,_,_],[]⟩) rfl rfl rfl rfl ?_
    by_cases h7 : (97 : Int) ≤ ((e5.toNat : Nat) : Int)
    · skip
      refine W.op (v := .bool true) (fr1 := ⟨[_,_,_,_,_,_,_,_,_,_,_,_,_,_,_,.bool true,_,_,_,_,_,_,_,_,_,_,_,_,_,_,_,_,_,_,_,_,_,_,_,_,_,_,_,_,_,_,_,_,_,_,_,_,_,_,_,_,_],[]⟩) rfl (p_bin (geT h7)) rfl rfl ?_
      refine W.op (v := .bool true) (fr1 := ⟨[_,_,_,_,_,_,_,_,_,_,_,_,_,_,_,_,.bool true,_,_,_,_,_,_,_,_,_,_,_,_,_,_,_,_,_,_,_,_,_,_,_,_,_,_,_,_,_,_,_,_,_,_,_,_,_,_,_,_],[]⟩) rfl rfl rfl rfl ?_
      refine W.op (v := .int .u8 ((e5.toNat : Nat) : Int)) (fr1 := ⟨[_,_,_,_,_,_,_,_,_,_,_,_,_,_,_,_,_,.int .u8 ((e5.toNat : Nat) : Int),_,_,_,_,_,_,_,_,_,_,_,_,_,_,_,_,_,_,_,_,_,_,_,_,_,_,_,_,_,_,_,_,_,_,_,_,_,_,_],[]⟩) rfl rfl rfl rfl ?_
      by_cases h8 : ((e5.toNat : Nat) : Int) ≤ 122
      · skip
        refine W.op (v := .bool true) (fr1 := ⟨[_,_,_,_,_,_,_,_,_,_,_,_,_,_,_,_,_,_,.bool true,_,_,_,_,_,_,_,_,_,_,_,_,_,_,_,_,_,_,_,_,_,_,_,_,_,_,_,_,_,_,_,_,_,_,_,_,_,_],[]⟩) rfl (p_bin (leT h8)) rfl rfl ?_
        refine W.op (v := .bool true) (fr1 := ⟨[_,_,_,_,_,_,_,_,_,_,_,_,_,_,_,_,_,_,_,.bool true,_,_,_,_,_,_,_,_,_,_,_,_,_,_,_,_,_,_,_,_,_,_,_,_,_,_,_,_,_,_,_,_,_,_,_,_,_],[]⟩) rfl rfl rfl rfl ?_
        refine W.op (v := .bool true) (fr1 := ⟨[_,_,_,_,_,_,_,_,_,_,_,_,_,_,_,_,_,_,_,_,.bool true,_,_,_,_,_,_,_,_,_,_,_,_,_,_,_,_,_,_,_,_,_,_,_,_,_,_,_,_,_,_,_,_,_,_,_,_],[]⟩) rfl rfl rfl rfl ?_
        refine W.skip (fr1 := ⟨[_,_,_,_,_,_,_,_,_,_,_,_,_,_,_,_,_,_,_,_,_,undef,_,_,_,_,_,_,_,_,_,_,_,_,_,_,_,_,_,_,_,_,_,_,_,_,_,_,_,_,_,_,_,_,_,_,_],[]⟩) rfl rfl ?_
        refine W.skip (fr1 := ⟨[_,_,_,_,_,_,_,_,_,_,_,_,_,_,_,_,_,_,_,_,_,_,undef,_,_,_,_,_,_,_,_,_,_,_,_,_,_,_,_,_,_,_,_,_,_,_,_,_,_,_,_,_,_,_,_,_,_],[]⟩) rfl rfl ?_
        refine W.skip (fr1 := ⟨[_,_,_,_,_,_,_,_,_,_,_,_,_,_,_,_,_,_,_,_,_,_,_,undef,_,_,_,_,_,_,_,_,_,_,_,_,_,_,_,_,_,_,_,_,_,_,_,_,_,_,_,_,_,_,_,_,_],[]⟩) rfl rfl ?_
        refine W.skip (fr1 := ⟨[_,_,_,_,_,_,_,_,_,_,_,_,_,_,_,_,_,_,_,_,_,_,_,_,undef,_,_,_,_,_,_,_,_,_,_,_,_,_,_,_,_,_,_,_,_,_,_,_,_,_,_,_,_,_,_,_,_],[]⟩) rfl rfl ?_
        refine W.skip (fr1 := ⟨[_,_,_,_,_,_,_,_,_,_,_,_,_,_,_,_,_,_,_,_,_,_,_,_,_,undef,_,_,_,_,_,_,_,_,_,_,_,_,_,_,_,_,_,_,_,_,_,_,_,_,_,_,_,_,_,_,_],[]⟩) rfl rfl ?_
        refine W.skip (fr1 := ⟨[_,_,_,_,_,_,_,_,_,_,_,_,_,_,_,_,_,_,_,_,_,_,_,_,_,_,undef,_,_,_,_,_,_,_,_,_,_,_,_,_,_,_,_,_,_,_,_,_,_,_,_,_,_,_,_,_,_],[]⟩) rfl rfl ?_
        refine W.op (v := .bool true) (fr1 := ⟨[_,_,_,_,_,_,_,_,_,_,_,_,_,_,_,_,_,_,_,_,_,_,_,_,_,_,_,.bool true,_,_,_,_,_,_,_,_,_,_,_,_,_,_,_,_,_,_,_,_,_,_,_,_,_,_,_,_,_],[]⟩) rfl rfl rfl rfl ?_
        refine W.op (v := .bool true) (fr1 := ⟨[_,_,_,_,_,_,_,_,_,_,_,_,_,_,_,_,_,_,_,_,_,_,_,_,_,_,_,_,.bool true,_,_,_,_,_,_,_,_,_,_,_,_,_,_,_,_,_,_,_,_,_,_,_,_,_,_,_,_],[]⟩) rfl rfl rfl rfl ?_
        refine W.skip (fr1 := ⟨[_,_,_,_,_,_,_,_,_,_,_,_,_,_,_,_,_,_,_,_,_,_,_,_,_,_,_,_,_,undef,_,_,_,_,_,_,_,_,_,_,_,_,_,_,_,_,_,_,_,_,_,_,_,_,_,_,_],[]⟩) rfl rfl ?_
        refine W.skip (fr1 := ⟨[_,_,_,_,_,_,_,_,_,_,_,_,_,_,_,_,_,_,_,_,_,_,_,_,_,_,_,_,_,_,undef,_,_,_,_,_,_,_,_,_,_,_,_,_,_,_,_,_,_,_,_,_,_,_,_,_,_],[]⟩) rfl rfl ?_
        refine W.skip (fr1 := ⟨[_,_,_,_,_,_,_,_,_,_,_,_,_,_,_,_,_,_,_,_,_,_,_,_,_,_,_,_,_,_,_,undef,_,_,_,_,_,_,_,_,_,_,_,_,_,_,_,_,_,_,_,_,_,_,_,_,_],[]⟩) rfl rfl ?_
        refine W.skip (fr1 := ⟨[_,_,_,_,_,_,_,_,_,_,_,_,_,_,_,_,_,_,_,_,_,_,_,_,_,_,_,_,_,_,_,_,undef,_,_,_,_,_,_,_,_,_,_,_,_,_,_,_,_,_,_,_,_,_,_,_,_],[]⟩) rfl rfl ?_
        refine W.skip (fr1 := ⟨[_,_,_,_,_,_,_,_,_,_,_,_,_,_,_,_,_,_,_,_,_,_,_,_,_,_,_,_,_,_,_,_,_,undef,_,_,_,_,_,_,_,_,_,_,_,_,_,_,_,_,_,_,_,_,_,_,_],[]⟩) rfl rfl ?_
        refine W.skip (fr1 := ⟨[_,_,_,_,_,_,_,_,_,_,_,_,_,_,_,_,_,_,_,_,_,_,_,_,_,_,_,_,_,_,_,_,_,_,undef,_,_,_,_,_,_,_,_,_,_,_,_,_,_,_,_,_,_,_,_,_,_],[]⟩) rfl rfl ?_
        refine W.op (v := .bool true) (fr1 := ⟨[_,_,_,_,_,_,_,_,_,_,_,_,_,_,_,_,_,_,_,_,_,_,_,_,_,_,_,_,_,_,_,_,_,_,_,.bool true,_,_,_,_,_,_,_,_,_,_,_,_,_,_,_,_,_,_,_,_,_],[]⟩) rfl rfl rfl rfl ?_
        refine W.op (v := .bool true) (fr1 := ⟨[_,_,_,_,_,_,_,_,_,_,_,_,_,_,_,_,_,_,_,_,_,_,_,_,_,_,_,_,_,_,_,_,_,_,_,_,.bool true,_,_,_,_,_,_,_,_,_,_,_,_,_,_,_,_,_,_,_,_],[]⟩) rfl rfl rfl rfl ?_
        refine W.skip (fr1 := ⟨[_,_,_,_,_,_,_,_,_,_,_,_,_,_,_,_,_,_,_,_,_,_,_,_,_,_,_,_,_,_,_,_,_,_,_,_,_,undef,_,_,_,_,_,_,_,_,_,_,_,_,_,_,_,_,_,_,_],[]⟩) rfl rfl ?_
        refine W.skip (fr1 := ⟨[_,_,_,_,_,_,_,_,_,_,_,_,_,_,_,_,_,_,_,_,_,_,_,_,_,_,_,_,_,_,_,_,_,_,_,_,_,_,undef,_,_,_,_,_,_,_,_,_,_,_,_,_,_,_,_,_,_],[]⟩) rfl rfl ?_
        refine W.op (v := .bool true) (fr1 := ⟨[_,_,_,_,_,_,_,_,_,_,_,_,_,_,_,_,_,_,_,_,_,_,_,_,_,_,_,_,_,_,_,_,_,_,_,_,_,_,_,.bool true,_,_,_,_,_,_,_,_,_,_,_,_,_,_,_,_,_],[]⟩) rfl rfl rfl rfl ?_
        refine W.op (v := .bool true) (fr1 := ⟨[_,_,_,_,_,_,_,_,_,_,_,_,_,_,_,_,_,_,_,_,_,_,_,_,_,_,_,_,_,_,_,_,_,_,_,_,_,_,_,_,.bool true,_,_,_,_,_,_,_,_,_,_,_,_,_,_,_,_],[]⟩) rfl rfl rfl rfl ?_
        refine W.skip (fr1 := ⟨[_,_,_,_,_,_,_,_,_,_,_,_,_,_,_,_,_,_,_,_,_,_,_,_,_,_,_,_,_,_,_,_,_,_,_,_,_,_,_,_,_,undef,_,_,_,_,_,_,_,_,_,_,_,_,_,_,_],[]⟩) rfl rfl ?_
        refine W.skip (fr1 := ⟨[_,_,_,_,_,_,_,_,_,_,_,_,_,_,_,_,_,_,_,_,_,_,_,_,_,_,_,_,_,_,_,_,_,_,_,_,_,_,_,_,_,_,undef,_,_,_,_,_,_,_,_,_,_,_,_,_,_],[]⟩) rfl rfl ?_
        refine W.op (v := .bool true) (fr1 := ⟨[_,_,_,_,_,_,_,_,_,_,_,_,_,_,_,_,_,_,_,_,_,_,_,_,_,_,_,_,_,_,_,_,_,_,_,_,_,_,_,_,_,_,_,.bool true,_,_,_,_,_,_,_,_,_,_,_,_,_],[]⟩) rfl rfl rfl rfl ?_
        refine W.op (v := .bool true) (fr1 := ⟨[_,_,_,_,_,_,_,_,_,_,_,_,_,_,_,_,_,_,_,_,_,_,_,_,_,_,_,_,_,_,_,_,_,_,_,_,_,_,_,_,_,_,_,_,.bool true,_,_,_,_,_,_,_,_,_,_,_,_],[]⟩) rfl rfl rfl rfl ?_
        refine W.skip (fr1 := ⟨[_,_,_,_,_,_,_,_,_,_,_,_,_,_,_,_,_,_,_,_,_,_,_,_,_,_,_,_,_,_,_,_,_,_,_,_,_,_,_,_,_,_,_,_,_,undef,_,_,_,_,_,_,_,_,_,_,_],[]⟩) rfl rfl ?_
        refine W.skip (fr1 := ⟨[_,_,_,_,_,_,_,_,_,_,_,_,_,_,_,_,_,_,_,_,_,_,_,_,_,_,_,_,_,_,_,_,_,_,_,_,_,_,_,_,_,_,_,_,_,_,undef,_,_,_,_,_,_,_,_,_,_],[]⟩) rfl rfl ?_
        refine W.op (v := .bool true) (fr1 := ⟨[_,_,_,_,_,_,_,_,_,_,_,_,_,_,_,_,_,_,_,_,_,_,_,_,_,_,_,_,_,_,_,_,_,_,_,_,_,_,_,_,_,_,_,_,_,_,_,.bool true,_,_,_,_,_,_,_,_,_],[]⟩) rfl rfl rfl rfl ?_
        refine W.op (v := .bool false) (fr1 := ⟨[_,_,_,_,_,_,_,_,_,_,_,_,_,_,_,_,_,_,_,_,_,_,_,_,_,_,_,_,_,_,_,_,_,_,_,_,_,_,_,_,_,_,_,_,_,_,_,_,.bool false,_,_,_,_,_,_,_,_],[]⟩) rfl rfl rfl rfl ?_
        refine EndsOps.nil ?_
        refine Ends.condF rfl ?_
        refine Ends.skip ?_
        refine Ends.region ?_
        refine W.op (v := .int .i64 ((i : Nat) : Int)) (fr1 := ⟨[_,_,_,_,_,_,_,_,_,.int .i64 ((i : Nat) : Int),_,_,_,_,_,_,_,_,_,_,_,_,_,_,_,_,_,_,_,_,_,_,_,_,_,_,_,_,_,_,_,_,_,_,_,_,_,_,_,_,_,_,_,_,_,_,_],[]⟩) rfl rfl rfl rfl ?_
        refine W.op (v := .int .i64 ((i + 1 : Nat) : Int)) (fr1 := ⟨[_,_,_,_,_,_,_,_,_,_,.int .i64 ((i + 1 : Nat) : Int),_,_,_,_,_,_,_,_,_,_,_,_,_,_,_,_,_,_,_,_,_,_,_,_,_,_,_,_,_,_,_,_,_,_,_,_,_,_,_,_,_,_,_,_,_,_],[]⟩) rfl (p_bin (addI (by omega) (by omega) (by omega))) rfl rfl ?_
        refine W.op (v := .int .i64 ((i + 1 : Nat) : Int)) (fr1 := ⟨[_,_,_,.int .i64 ((i + 1 : Nat) : Int),_,_,_,_,_,_,_,_,_,_,_,_,_,_,_,_,_,_,_,_,_,_,_,_,_,_,_,_,_,_,_,_,_,_,_,_,_,_,_,_,_,_,_,_,_,_,_,_,_,_,_,_,_],[]⟩) rfl rfl rfl rfl ?_
        refine EndsOps.nil ?_
        exact ⟨_,(by omega),i + 1,_,_,_,_,_,_,_,_,_,_,_,_,_,_,_,_,_,_,_,_,_,_,_,_,_,_,_,_,_,_,_,_,_,_,_,_,_,_,_,_,_,_,_,_,_,_,rfl,hO2,rfl,by omega,NoB.step hn he6 (fun hq => hq (by unfold PlainB PlainC; omega))⟩
      · skip
        refine W.op (v := .bool false) (fr1 := ⟨[_,_,_,_,_,_,_,_,_,_,_,_,_,_,_,_,_,_,.bool false,_,_,_,_,_,_,_,_,_,_,_,_,_,_,_,_,_,_,_,_,_,_,_,_,_,_,_,_,_,_,_,_,_,_,_,_,_,_],[]⟩) rfl (p_bin (leF h8)) rfl rfl ?_
        refine W.op (v := .bool false) (fr1 := ⟨[_,_,_,_,_,_,_,_,_,_,_,_,_,_,_,_,_,_,_,.bool false,_,_,_,_,_,_,_,_,_,_,_,_,_,_,_,_,_,_,_,_,_,_,_,_,_,_,_,_,_,_,_,_,_,_,_,_,_],[]⟩) rfl rfl rfl rfl ?_
        refine W.op (v := .bool false) (fr1 := ⟨[_,_,_,_,_,_,_,_,_,_,_,_,_,_,_,_,_,_,_,_,.bool false,_,_,_,_,_,_,_,_,_,_,_,_,_,_,_,_,_,_,_,_,_,_,_,_,_,_,_,_,_,_,_,_,_,_,_,_],[]⟩) rfl rfl rfl rfl ?_
        refine W.op (v := .int .u8 ((e5.toNat : Nat) : Int)) (fr1 := ⟨[_,_,_,_,_,_,_,_,_,_,_,_,_,_,_,_,_,_,_,_,_,.int .u8 ((e5.toNat : Nat) : Int),_,_,_,_,_,_,_,_,_,_,_,_,_,_,_,_,_,_,_,_,_,_,_,_,_,_,_,_,_,_,_,_,_,_,_],[]⟩) rfl rfl rfl rfl ?_
        refine W.op (v := .bool true) (fr1 := ⟨[_,_,_,_,_,_,_,_,_,_,_,_,_,_,_,_,_,_,_,_,_,_,.bool true,_,_,_,_,_,_,_,_,_,_,_,_,_,_,_,_,_,_,_,_,_,_,_,_,_,_,_,_,_,_,_,_,_,_],[]⟩) rfl (p_bin (geT (by omega))) rfl rfl ?_
        refine W.op (v := .bool true) (fr1 := ⟨[_,_,_,_,_,_,_,_,_,_,_,_,_,_,_,_,_,_,_,_,_,_,_,.bool true,_,_,_,_,_,_,_,_,_,_,_,_,_,_,_,_,_,_,_,_,_,_,_,_,_,_,_,_,_,_,_,_,_],[]⟩) rfl rfl rfl rfl ?_
        refine W.op (v := .int .u8 ((e5.toNat : Nat) : Int)) (fr1 := ⟨[_,_,_,_,_,_,_,_,_,_,_,_,_,_,_,_,_,_,_,_,_,_,_,_,.int .u8 ((e5.toNat : Nat) : Int),_,_,_,_,_,_,_,_,_,_,_,_,_,_,_,_,_,_,_,_,_,_,_,_,_,_,_,_,_,_,_,_],[]⟩) rfl rfl rfl rfl ?_
        refine W.op (v := .bool false) (fr1 := ⟨[_,_,_,_,_,_,_,_,_,_,_,_,_,_,_,_,_,_,_,_,_,_,_,_,_,.bool false,_,_,_,_,_,_,_,_,_,_,_,_,_,_,_,_,_,_,_,_,_,_,_,_,_,_,_,_,_,_,_],[]⟩) rfl (p_bin (leF (by omega))) rfl rfl ?_
        refine W.op (v := .bool false) (fr1 := ⟨[_,_,_,_,_,_,_,_,_,_,_,_,_,_,_,_,_,_,_,_,_,_,_,_,_,_,.bool false,_,_,_,_,_,_,_,_,_,_,_,_,_,_,_,_,_,_,_,_,_,_,_,_,_,_,_,_,_,_],[]⟩) rfl rfl rfl rfl ?_
        refine W.op (v := .bool false) (fr1 := ⟨[_,_,_,_,_,_,_,_,_,_,_,_,_,_,_,_,_,_,_,_,_,_,_,_,_,_,_,.bool false,_,_,_,_,_,_,_,_,_,_,_,_,_,_,_,_,_,_,_,_,_,_,_,_,_,_,_,_,_],[]⟩) rfl rfl rfl rfl ?_
        refine W.op (v := .bool false) (fr1 := ⟨[_,_,_,_,_,_,_,_,_,_,_,_,_,_,_,_,_,_,_,_,_,_,_,_,_,_,_,_,.bool false,_,_,_,_,_,_,_,_,_,_,_,_,_,_,_,_,_,_,_,_,_,_,_,_,_,_,_,_],[]⟩) rfl rfl rfl rfl ?_
        refine W.op (v := .int .u8 ((e5.toNat : Nat) : Int)) (fr1 := ⟨[_,_,_,_,_,_,_,_,_,_,_,_,_,_,_,_,_,_,_,_,_,_,_,_,_,_,_,_,_,.int .u8 ((e5.toNat : Nat) : Int),_,_,_,_,_,_,_,_,_,_,_,_,_,_,_,_,_,_,_,_,_,_,_,_,_,_,_],[]⟩) rfl rfl rfl rfl ?_
        refine W.op (v := .bool true) (fr1 := ⟨[_,_,_,_,_,_,_,_,_,_,_,_,_,_,_,_,_,_,_,_,_,_,_,_,_,_,_,_,_,_,.bool true,_,_,_,_,_,_,_,_,_,_,_,_,_,_,_,_,_,_,_,_,_,_,_,_,_,_],[]⟩) rfl (p_bin (geT (by omega))) rfl rfl ?_
        refine W.op (v := .bool true) (fr1 := ⟨[_,_,_,_,_,_,_,_,_,_,_,_,_,_,_,_,_,_,_,_,_,_,_,_,_,_,_,_,_,_,_,.bool true,_,_,_,_,_,_,_,_,_,_,_,_,_,_,_,_,_,_,_,_,_,_,_,_,_],[]⟩) rfl rfl rfl rfl ?_
        refine W.op (v := .int .u8 ((e5.toNat : Nat) : Int)) (fr1 := ⟨[_,_,_,_,_,_,_,_,_,_,_,_,_,_,_,_,_,_,_,_,_,_,_,_,_,_,_,_,_,_,_,_,.int .u8 ((e5.toNat : Nat) : Int),_,_,_,_,_,_,_,_,_,_,_,_,_,_,_,_,_,_,_,_,_,_,_,_],[]⟩) rfl rfl rfl rfl ?_
        refine W.op (v := .bool false) (fr1 := ⟨[_,_,_,_,_,_,_,_,_,_,_,_,_,_,_,_,_,_,_,_,_,_,_,_,_,_,_,_,_,_,_,_,_,.bool false,_,_,_,_,_,_,_,_,_,_,_,_,_,_,_,_,_,_,_,_,_,_,_],[]⟩) rfl (p_bin (leF (by omega))) rfl rfl ?_
        refine W.op (v := .bool false) (fr1 := ⟨[_,_,_,_,_,_,_,_,_,_,_,_,_,_,_,_,_,_,_,_,_,_,_,_,_,_,_,_,_,_,_,_,_,_,.bool false,_,_,_,_,_,_,_,_,_,_,_,_,_,_,_,_,_,_,_,_,_,_],[]⟩) rfl rfl rfl rfl ?_
        refine W.op (v := .bool false) (fr1 := ⟨[_,_,_,_,_,_,_,_,_,_,_,_,_,_,_,_,_,_,_,_,_,_,_,_,_,_,_,_,_,_,_,_,_,_,_,.bool false,_,_,_,_,_,_,_,_,_,_,_,_,_,_,_,_,_,_,_,_,_],[]⟩) rfl rfl rfl rfl ?_
        refine W.op (v := .bool false) (fr1 := ⟨[_,_,_,_,_,_,_,_,_,_,_,_,_,_,_,_,_,_,_,_,_,_,_,_,_,_,_,_,_,_,_,_,_,_,_,_,.bool false,_,_,_,_,_,_,_,_,_,_,_,_,_,_,_,_,_,_,_,_],[]⟩) rfl rfl rfl rfl ?_
        refine W.op (v := .int .u8 ((e5.toNat : Nat) : Int)) (fr1 := ⟨[_,_,_,_,_,_,_,_,_,_,_,_,_,_,_,_,_,_,_,_,_,_,_,_,_,_,_,_,_,_,_,_,_,_,_,_,_,.int .u8 ((e5.toNat : Nat) : Int),_,_,_,_,_,_,_,_,_,_,_,_,_,_,_,_,_,_,_],[]⟩) rfl rfl rfl rfl ?_
        refine W.op (v := .bool false) (fr1 := ⟨[_,_,_,_,_,_,_,_,_,_,_,_,_,_,_,_,_,_,_,_,_,_,_,_,_,_,_,_,_,_,_,_,_,_,_,_,_,_,.bool false,_,_,_,_,_,_,_,_,_,_,_,_,_,_,_,_,_,_],[]⟩) rfl (p_bin (eqF (by omega))) rfl rfl ?_
        refine W.op (v := .bool false) (fr1 := ⟨[_,_,_,_,_,_,_,_,_,_,_,_,_,_,_,_,_,_,_,_,_,_,_,_,_,_,_,_,_,_,_,_,_,_,_,_,_,_,_,.bool false,_,_,_,_,_,_,_,_,_,_,_,_,_,_,_,_,_],[]⟩) rfl rfl rfl rfl ?_
        refine W.op (v := .bool false) (fr1 := ⟨[_,_,_,_,_,_,_,_,_,_,_,_,_,_,_,_,_,_,_,_,_,_,_,_,_,_,_,_,_,_,_,_,_,_,_,_,_,_,_,_,.bool false,_,_,_,_,_,_,_,_,_,_,_,_,_,_,_,_],[]⟩) rfl rfl rfl rfl ?_
        refine W.op (v := .int .u8 ((e5.toNat : Nat) : Int)) (fr1 := ⟨[_,_,_,_,_,_,_,_,_,_,_,_,_,_,_,_,_,_,_,_,_,_,_,_,_,_,_,_,_,_,_,_,_,_,_,_,_,_,_,_,_,.int .u8 ((e5.toNat : Nat) : Int),_,_,_,_,_,_,_,_,_,_,_,_,_,_,_],[]⟩) rfl rfl rfl rfl ?_
        refine W.op (v := .bool false) (fr1 := ⟨[_,_,_,_,_,_,_,_,_,_,_,_,_,_,_,_,_,_,_,_,_,_,_,_,_,_,_,_,_,_,_,_,_,_,_,_,_,_,_,_,_,_,.bool false,_,_,_,_,_,_,_,_,_,_,_,_,_,_],[]⟩) rfl (p_bin (eqF (by omega))) rfl rfl ?_
        refine W.op (v := .bool false) (fr1 := ⟨[_,_,_,_,_,_,_,_,_,_,_,_,_,_,_,_,_,_,_,_,_,_,_,_,_,_,_,_,_,_,_,_,_,_,_,_,_,_,_,_,_,_,_,.bool false,_,_,_,_,_,_,_,_,_,_,_,_,_],[]⟩) rfl rfl rfl rfl ?_
        refine W.op (v := .bool false) (fr1 := ⟨[_,_,_,_,_,_,_,_,_,_,_,_,_,_,_,_,_,_,_,_,_,_,_,_,_,_,_,_,_,_,_,_,_,_,_,_,_,_,_,_,_,_,_,_,.bool false,_,_,_,_,_,_,_,_,_,_,_,_],[]⟩) rfl rfl rfl rfl ?_
        refine W.op (v := .int .u8 ((e5.toNat : Nat) : Int)) (fr1 := ⟨[_,_,_,_,_,_,_,_,_,_,_,_,_,_,_,_,_,_,_,_,_,_,_,_,_,_,_,_,_,_,_,_,_,_,_,_,_,_,_,_,_,_,_,_,_,.int .u8 ((e5.toNat : Nat) : Int),_,_,_,_,_,_,_,_,_,_,_],[]⟩) rfl rfl rfl rfl ?_
        refine W.op (v := .bool false) (fr1 := ⟨[_,_,_,_,_,_,_,_,_,_,_,_,_,_,_,_,_,_,_,_,_,_,_,_,_,_,_,_,_,_,_,_,_,_,_,_,_,_,_,_,_,_,_,_,_,_,.bool false,_,_,_,_,_,_,_,_,_,_],[]⟩) rfl (p_bin (eqF (by omega))) rfl rfl ?_
        refine W.op (v := .bool false) (fr1 := ⟨[_,_,_,_,_,_,_,_,_,_,_,_,_,_,_,_,_,_,_,_,_,_,_,_,_,_,_,_,_,_,_,_,_,_,_,_,_,_,_,_,_,_,_,_,_,_,_,.bool false,_,_,_,_,_,_,_,_,_],[]⟩) rfl rfl rfl rfl ?_
        refine W.op (v := .bool true) (fr1 := ⟨[_,_,_,_,_,_,_,_,_,_,_,_,_,_,_,_,_,_,_,_,_,_,_,_,_,_,_,_,_,_,_,_,_,_,_,_,_,_,_,_,_,_,_,_,_,_,_,_,.bool true,_,_,_,_,_,_,_,_],[]⟩) rfl rfl rfl rfl ?_
        refine EndsOps.nil ?_
        refine Ends.condT rfl ?_
        refine Ends.seq ?_
        refine Ends.region ?_
        refine W.op (v := .bool false) (fr1 := ⟨[_,_,.bool false,_,_,_,_,_,_,_,_,_,_,_,_,_,_,_,_,_,_,_,_,_,_,_,_,_,_,_,_,_,_,_,_,_,_,_,_,_,_,_,_,_,_,_,_,_,_,_,_,_,_,_,_,_,_],[]⟩) rfl rfl rfl rfl ?_
        refine EndsOps.nil ?_
        refine Ends.ret ?_
        exact ⟨rfl,rfl,hO2,by
          show Value.bool false = .bool (decide (Titled x))
          exact congrArg Value.bool (decide_eq_false fun hT => hT.2.2 (by rw [badS_at hn he6 (by unfold PlainB PlainC; omega)]; omega)).symm⟩
    · skip
      refine W.op (v := .bool false) (fr1 := ⟨[_,_,_,_,_,_,_,_,_,_,_,_,_,_,_,.bool false,_,_,_,_,_,_,_,_,_,_,_,_,_,_,_,_,_,_,_,_,_,_,_,_,_,_,_,_,_,_,_,_,_,_,_,_,_,_,_,_,_],[]⟩) rfl (p_bin (geF h7)) rfl rfl ?_
      refine W.op (v := .bool false) (fr1 := ⟨[_,_,_,_,_,_,_,_,_,_,_,_,_,_,_,_,.bool false,_,_,_,_,_,_,_,_,_,_,_,_,_,_,_,_,_,_,_,_,_,_,_,_,_,_,_,_,_,_,_,_,_,_,_,_,_,_,_,_],[]⟩) rfl rfl rfl rfl ?_
      refine W.skip (fr1 := ⟨[_,_,_,_,_,_,_,_,_,_,_,_,_,_,_,_,_,undef,_,_,_,_,_,_,_,_,_,_,_,_,_,_,_,_,_,_,_,_,_,_,_,_,_,_,_,_,_,_,_,_,_,_,_,_,_,_,_],[]⟩) rfl rfl ?_
      refine W.skip (fr1 := ⟨[_,_,_,_,_,_,_,_,_,_,_,_,_,_,_,_,_,_,undef,_,_,_,_,_,_,_,_,_,_,_,_,_,_,_,_,_,_,_,_,_,_,_,_,_,_,_,_,_,_,_,_,_,_,_,_,_,_],[]⟩) rfl rfl ?_
      refine W.op (v := .bool false) (fr1 := ⟨[_,_,_,_,_,_,_,_,_,_,_,_,_,_,_,_,_,_,_,.bool false,_,_,_,_,_,_,_,_,_,_,_,_,_,_,_,_,_,_,_,_,_,_,_,_,_,_,_,_,_,_,_,_,_,_,_,_,_],[]⟩) rfl rfl rfl rfl ?_
      refine W.op (v := .bool false) (fr1 := ⟨[_,_,_,_,_,_,_,_,_,_,_,_,_,_,_,_,_,_,_,_,.bool false,_,_,_,_,_,_,_,_,_,_,_,_,_,_,_,_,_,_,_,_,_,_,_,_,_,_,_,_,_,_,_,_,_,_,_,_],[]⟩) rfl rfl rfl rfl ?_
      refine W.op (v := .int .u8 ((e5.toNat : Nat) : Int)) (fr1 := ⟨[_,_,_,_,_,_,_,_,_,_,_,_,_,_,_,_,_,_,_,_,_,.int .u8 ((e5.toNat : Nat) : Int),_,_,_,_,_,_,_,_,_,_,_,_,_,_,_,_,_,_,_,_,_,_,_,_,_,_,_,_,_,_,_,_,_,_,_],[]⟩) rfl rfl rfl rfl ?_
      by_cases h9 : (65 : Int) ≤ ((e5.toNat : Nat) : Int)
      · skip
        refine W.op (v := .bool true) (fr1 := ⟨[_,_,_,_,_,_,_,_,_,_,_,_,_,_,_,_,_,_,_,_,_,_,.bool true,_,_,_,_,_,_,_,_,_,_,_,_,_,_,_,_,_,_,_,_,_,_,_,_,_,_,_,_,_,_,_,_,_,_],[]⟩) rfl (p_bin (geT h9)) rfl rfl ?_
        refine W.op (v := .bool true) (fr1 := ⟨[_,_,_,_,_,_,_,_,_,_,_,_,_,_,_,_,_,_,_,_,_,_,_,.bool true,_,_,_,_,_,_,_,_,_,_,_,_,_,_,_,_,_,_,_,_,_,_,_,_,_,_,_,_,_,_,_,_,_],[]⟩) rfl rfl rfl rfl ?_
        refine W.op (v := .int .u8 ((e5.toNat : Nat) : Int)) (fr1 := ⟨[_,_,_,_,_,_,_,_,_,_,_,_,_,_,_,_,_,_,_,_,_,_,_,_,.int .u8 ((e5.toNat : Nat) : Int),_,_,_,_,_,_,_,_,_,_,_,_,_,_,_,_,_,_,_,_,_,_,_,_,_,_,_,_,_,_,_,_],[]⟩) rfl rfl rfl rfl ?_
        by_cases h10 : ((e5.toNat : Nat) : Int) ≤ 90
        · skip
          refine W.op (v := .bool true) (fr1 := ⟨[_,_,_,_,_,_,_,_,_,_,_,_,_,_,_,_,_,_,_,_,_,_,_,_,_,.bool true,_,_,_,_,_,_,_,_,_,_,_,_,_,_,_,_,_,_,_,_,_,_,_,_,_,_,_,_,_,_,_],[]⟩) rfl (p_bin (leT h10)) rfl rfl ?_
          refine W.op (v := .bool true) (fr1 := ⟨[_,_,_,_,_,_,_,_,_,_,_,_,_,_,_,_,_,_,_,_,_,_,_,_,_,_,.bool true,_,_,_,_,_,_,_,_,_,_,_,_,_,_,_,_,_,_,_,_,_,_,_,_,_,_,_,_,_,_],[]⟩) rfl rfl rfl rfl ?_
          refine W.op (v := .bool true) (fr1 := ⟨[_,_,_,_,_,_,_,_,_,_,_,_,_,_,_,_,_,_,_,_,_,_,_,_,_,_,_,.bool true,_,_,_,_,_,_,_,_,_,_,_,_,_,_,_,_,_,_,_,_,_,_,_,_,_,_,_,_,_],[]⟩) rfl rfl rfl rfl ?_
          refine W.op (v := .bool true) (fr1 := ⟨[_,_,_,_,_,_,_,_,_,_,_,_,_,_,_,_,_,_,_,_,_,_,_,_,_,_,_,_,.bool true,_,_,_,_,_,_,_,_,_,_,_,_,_,_,_,_,_,_,_,_,_,_,_,_,_,_,_,_],[]⟩) rfl rfl rfl rfl ?_
          refine W.skip (fr1 := ⟨[_,_,_,_,_,_,_,_,_,_,_,_,_,_,_,_,_,_,_,_,_,_,_,_,_,_,_,_,_,undef,_,_,_,_,_,_,_,_,_,_,_,_,_,_,_,_,_,_,_,_,_,_,_,_,_,_,_],[]⟩) rfl rfl ?_
          refine W.skip (fr1 := ⟨[_,_,_,_,_,_,_,_,_,_,_,_,_,_,_,_,_,_,_,_,_,_,_,_,_,_,_,_,_,_,undef,_,_,_,_,_,_,_,_,_,_,_,_,_,_,_,_,_,_,_,_,_,_,_,_,_,_],[]⟩) rfl rfl ?_
          refine W.skip (fr1 := ⟨[_,_,_,_,_,_,_,_,_,_,_,_,_,_,_,_,_,_,_,_,_,_,_,_,_,_,_,_,_,_,_,undef,_,_,_,_,_,_,_,_,_,_,_,_,_,_,_,_,_,_,_,_,_,_,_,_,_],[]⟩) rfl rfl ?_
          refine W.skip (fr1 := ⟨[_,_,_,_,_,_,_,_,_,_,_,_,_,_,_,_,_,_,_,_,_,_,_,_,_,_,_,_,_,_,_,_,undef,_,_,_,_,_,_,_,_,_,_,_,_,_,_,_,_,_,_,_,_,_,_,_,_],[]⟩) rfl rfl ?_
          refine W.skip (fr1 := ⟨[_,_,_,_,_,_,_,_,_,_,_,_,_,_,_,_,_,_,_,_,_,_,_,_,_,_,_,_,_,_,_,_,_,undef,_,_,_,_,_,_,_,_,_,_,_,_,_,_,_,_,_,_,_,_,_,_,_],[]⟩) rfl rfl ?_
          refine W.skip (fr1 := ⟨[_,_,_,_,_,_,_,_,_,_,_,_,_,_,_,_,_,_,_,_,_,_,_,_,_,_,_,_,_,_,_,_,_,_,undef,_,_,_,_,_,_,_,_,_,_,_,_,_,_,_,_,_,_,_,_,_,_],[]⟩) rfl rfl ?_
          refine W.op (v := .bool true) (fr1 := ⟨[_,_,_,_,_,_,_,_,_,_,_,_,_,_,_,_,_,_,_,_,_,_,_,_,_,_,_,_,_,_,_,_,_,_,_,.bool true,_,_,_,_,_,_,_,_,_,_,_,_,_,_,_,_,_,_,_,_,_],[]⟩) rfl rfl rfl rfl ?_
          refine W.op (v := .bool true) (fr1 := ⟨[_,_,_,_,_,_,_,_,_,_,_,_,_,_,_,_,_,_,_,_,_,_,_,_,_,_,_,_,_,_,_,_,_,_,_,_,.bool true,_,_,_,_,_,_,_,_,_,_,_,_,_,_,_,_,_,_,_,_],[]⟩) rfl rfl rfl rfl ?_
          refine W.skip (fr1 := ⟨[_,_,_,_,_,_,_,_,_,_,_,_,_,_,_,_,_,_,_,_,_,_,_,_,_,_,_,_,_,_,_,_,_,_,_,_,_,undef,_,_,_,_,_,_,_,_,_,_,_,_,_,_,_,_,_,_,_],[]⟩) rfl rfl ?_
          refine W.skip (fr1 := ⟨[_,_,_,_,_,_,_,_,_,_,_,_,_,_,_,_,_,_,_,_,_,_,_,_,_,_,_,_,_,_,_,_,_,_,_,_,_,_,undef,_,_,_,_,_,_,_,_,_,_,_,_,_,_,_,_,_,_],[]⟩) rfl rfl ?_
          refine W.op (v := .bool true) (fr1 := ⟨[_,_,_,_,_,_,_,_,_,_,_,_,_,_,_,_,_,_,_,_,_,_,_,_,_,_,_,_,_,_,_,_,_,_,_,_,_,_,_,.bool true,_,_,_,_,_,_,_,_,_,_,_,_,_,_,_,_,_],[]⟩) rfl rfl rfl rfl ?_
          refine W.op (v := .bool true) (fr1 := ⟨[_,_,_,_,_,_,_,_,_,_,_,_,_,_,_,_,_,_,_,_,_,_,_,_,_,_,_,_,_,_,_,_,_,_,_,_,_,_,_,_,.bool true,_,_,_,_,_,_,_,_,_,_,_,_,_,_,_,_],[]⟩) rfl rfl rfl rfl ?_
          refine W.skip (fr1 := ⟨[_,_,_,_,_,_,_,_,_,_,_,_,_,_,_,_,_,_,_,_,_,_,_,_,_,_,_,_,_,_,_,_,_,_,_,_,_,_,_,_,_,undef,_,_,_,_,_,_,_,_,_,_,_,_,_,_,_],[]⟩) rfl rfl ?_
          refine W.skip (fr1 := ⟨[_,_,_,_,_,_,_,_,_,_,_,_,_,_,_,_,_,_,_,_,_,_,_,_,_,_,_,_,_,_,_,_,_,_,_,_,_,_,_,_,_,_,undef,_,_,_,_,_,_,_,_,_,_,_,_,_,_],[]⟩) rfl rfl ?_
          refine W.op (v := .bool true) (fr1 := ⟨[_,_,_,_,_,_,_,_,_,_,_,_,_,_,_,_,_,_,_,_,_,_,_,_,_,_,_,_,_,_,_,_,_,_,_,_,_,_,_,_,_,_,_,.bool true,_,_,_,_,_,_,_,_,_,_,_,_,_],[]⟩) rfl rfl rfl rfl ?_
          refine W.op (v := .bool true) (fr1 := ⟨[_,_,_,_,_,_,_,_,_,_,_,_,_,_,_,_,_,_,_,_,_,_,_,_,_,_,_,_,_,_,_,_,_,_,_,_,_,_,_,_,_,_,_,_,.bool true,_,_,_,_,_,_,_,_,_,_,_,_],[]⟩) rfl rfl rfl rfl ?_
          refine W.skip (fr1 := ⟨[_,_,_,_,_,_,_,_,_,_,_,_,_,_,_,_,_,_,_,_,_,_,_,_,_,_,_,_,_,_,_,_,_,_,_,_,_,_,_,_,_,_,_,_,_,undef,_,_,_,_,_,_,_,_,_,_,_],[]⟩) rfl rfl ?_
          refine W.skip (fr1 := ⟨[_,_,_,_,_,_,_,_,_,_,_,_,_,_,_,_,_,_,_,_,_,_,_,_,_,_,_,_,_,_,_,_,_,_,_,_,_,_,_,_,_,_,_,_,_,_,undef,_,_,_,_,_,_,_,_,_,_],[]⟩) rfl rfl ?_
          refine W.op (v := .bool true) (fr1 := ⟨[_,_,_,_,_,_,_,_,_,_,_,_,_,_,_,_,_,_,_,_,_,_,_,_,_,_,_,_,_,_,_,_,_,_,_,_,_,_,_,_,_,_,_,_,_,_,_,.bool true,_,_,_,_,_,_,_,_,_],[]⟩) rfl rfl rfl rfl ?_
          refine W.op (v := .bool false) (fr1 := ⟨[_,_,_,_,_,_,_,_,_,_,_,_,_,_,_,_,_,_,_,_,_,_,_,_,_,_,_,_,_,_,_,_,_,_,_,_,_,_,_,_,_,_,_,_,_,_,_,_,.bool false,_,_,_,_,_,_,_,_],[]⟩) rfl rfl rfl rfl ?_
          refine EndsOps.nil ?_
          refine Ends.condF rfl ?_
          refine Ends.skip ?_
          refine Ends.region ?_
          refine W.op (v := .int .i64 ((i : Nat) : Int)) (fr1 := ⟨[_,_,_,_,_,_,_,_,_,.int .i64 ((i : Nat) : Int),_,_,_,_,_,_,_,_,_,_,_,_,_,_,_,_,_,_,_,_,_,_,_,_,_,_,_,_,_,_,_,_,_,_,_,_,_,_,_,_,_,_,_,_,_,_,_],[]⟩) rfl rfl rfl rfl ?_
          refine W.op (v := .int .i64 ((i + 1 : Nat) : Int)) (fr1 := ⟨[_,_,_,_,_,_,_,_,_,_,.int .i64 ((i + 1 : Nat) : Int),_,_,_,_,_,_,_,_,_,_,_,_,_,_,_,_,_,_,_,_,_,_,_,_,_,_,_,_,_,_,_,_,_,_,_,_,_,_,_,_,_,_,_,_,_,_],[]⟩) rfl (p_bin (addI (by omega) (by omega) (by omega))) rfl rfl ?_
          refine W.op (v := .int .i64 ((i + 1 : Nat) : Int)) (fr1 := ⟨[_,_,_,.int .i64 ((i + 1 : Nat) : Int),_,_,_,_,_,_,_,_,_,_,_,_,_,_,_,_,_,_,_,_,_,_,_,_,_,_,_,_,_,_,_,_,_,_,_,_,_,_,_,_,_,_,_,_,_,_,_,_,_,_,_,_,_],[]⟩) rfl rfl rfl rfl ?_
          refine EndsOps.nil ?_
          exact ⟨_,(by omega),i + 1,_,_,_,_,_,_,_,_,_,_,_,_,_,_,_,_,_,_,_,_,_,_,_,_,_,_,_,_,_,_,_,_,_,_,_,_,_,_,_,_,_,_,_,_,_,_,rfl,hO2,rfl,by omega,NoB.step hn he6 (fun hq => hq (by unfold PlainB PlainC; omega))⟩
        · skip
          refine W.op (v := .bool false) (fr1 := ⟨[_,_,_,_,_,_,_,_,_,_,_,_,_,_,_,_,_,_,_,_,_,_,_,_,_,.bool false,_,_,_,_,_,_,_,_,_,_,_,_,_,_,_,_,_,_,_,_,_,_,_,_,_,_,_,_,_,_,_],[]⟩) rfl (p_bin (leF h10)) rfl rfl ?_
          refine W.op (v := .bool false) (fr1 := ⟨[_,_,_,_,_,_,_,_,_,_,_,_,_,_,_,_,_,_,_,_,_,_,_,_,_,_,.bool false,_,_,_,_,_,_,_,_,_,_,_,_,_,_,_,_,_,_,_,_,_,_,_,_,_,_,_,_,_,_],[]⟩) rfl rfl rfl rfl ?_
          refine W.op (v := .bool false) (fr1 := ⟨[_,_,_,_,_,_,_,_,_,_,_,_,_,_,_,_,_,_,_,_,_,_,_,_,_,_,_,.bool false,_,_,_,_,_,_,_,_,_,_,_,_,_,_,_,_,_,_,_,_,_,_,_,_,_,_,_,_,_],[]⟩) rfl rfl rfl rfl ?_
          refine W.op (v := .bool false) (fr1 := ⟨[_,_,_,_,_,_,_,_,_,_,_,_,_,_,_,_,_,_,_,_,_,_,_,_,_,_,_,_,.bool false,_,_,_,_,_,_,_,_,_,_,_,_,_,_,_,_,_,_,_,_,_,_,_,_,_,_,_,_],[]⟩) rfl rfl rfl rfl ?_
          refine W.op (v := .int .u8 ((e5.toNat : Nat) : Int)) (fr1 := ⟨[_,_,_,_,_,_,_,_,_,_,_,_,_,_,_,_,_,_,_,_,_,_,_,_,_,_,_,_,_,.int .u8 ((e5.toNat : Nat) : Int),_,_,_,_,_,_,_,_,_,_,_,_,_,_,_,_,_,_,_,_,_,_,_,_,_,_,_],[]⟩) rfl rfl rfl rfl ?_
          refine W.op (v := .bool true) (fr1 := ⟨[_,_,_,_,_,_,_,_,_,_,_,_,_,_,_,_,_,_,_,_,_,_,_,_,_,_,_,_,_,_,.bool true,_,_,_,_,_,_,_,_,_,_,_,_,_,_,_,_,_,_,_,_,_,_,_,_,_,_],[]⟩) rfl (p_bin (geT (by omega))) rfl rfl ?_
          refine W.op (v := .bool true) (fr1 := ⟨[_,_,_,_,_,_,_,_,_,_,_,_,_,_,_,_,_,_,_,_,_,_,_,_,_,_,_,_,_,_,_,.bool true,_,_,_,_,_,_,_,_,_,_,_,_,_,_,_,_,_,_,_,_,_,_,_,_,_],[]⟩) rfl rfl rfl rfl ?_
          refine W.op (v := .int .u8 ((e5.toNat : Nat) : Int)) (fr1 := ⟨[_,_,_,_,_,_,_,_,_,_,_,_,_,_,_,_,_,_,_,_,_,_,_,_,_,_,_,_,_,_,_,_,.int .u8 ((e5.toNat : Nat) : Int),_,_,_,_,_,_,_,_,_,_,_,_,_,_,_,_,_,_,_,_,_,_,_,_],[]⟩) rfl rfl rfl rfl ?_
          refine W.op (v := .bool false) (fr1 := ⟨[_,_,_,_,_,_,_,_,_,_,_,_,_,_,_,_,_,_,_,_,_,_,_,_,_,_,_,_,_,_,_,_,_,.bool false,_,_,_,_,_,_,_,_,_,_,_,_,_,_,_,_,_,_,_,_,_,_,_],[]⟩) rfl (p_bin (leF (by omega))) rfl rfl ?_
          refine W.op (v := .bool false) (fr1 := ⟨[_,_,_,_,_,_,_,_,_,_,_,_,_,_,_,_,_,_,_,_,_,_,_,_,_,_,_,_,_,_,_,_,_,_,.bool false,_,_,_,_,_,_,_,_,_,_,_,_,_,_,_,_,_,_,_,_,_,_],[]⟩) rfl rfl rfl rfl ?_
          refine W.op (v := .bool false) (fr1 := ⟨[_,_,_,_,_,_,_,_,_,_,_,_,_,_,_,_,_,_,_,_,_,_,_,_,_,_,_,_,_,_,_,_,_,_,_,.bool false,_,_,_,_,_,_,_,_,_,_,_,_,_,_,_,_,_,_,_,_,_],[]⟩) rfl rfl rfl rfl ?_
          refine W.op (v := .bool false) (fr1 := ⟨[_,_,_,_,_,_,_,_,_,_,_,_,_,_,_,_,_,_,_,_,_,_,_,_,_,_,_,_,_,_,_,_,_,_,_,_,.bool false,_,_,_,_,_,_,_,_,_,_,_,_,_,_,_,_,_,_,_,_],[]⟩) rfl rfl rfl rfl ?_
          refine W.op (v := .int .u8 ((e5.toNat : Nat) : Int)) (fr1 := ⟨[_,_,_,_,_,_,_,_,_,_,_,_,_,_,_,_,_,_,_,_,_,_,_,_,_,_,_,_,_,_,_,_,_,_,_,_,_,.int .u8 ((e5.toNat : Nat) : Int),_,_,_,_,_,_,_,_,_,_,_,_,_,_,_,_,_,_,_],[]⟩) rfl rfl rfl rfl ?_
          refine W.op (v := .bool false) (fr1 := ⟨[_,_,_,_,_,_,_,_,_,_,_,_,_,_,_,_,_,_,_,_,_,_,_,_,_,_,_,_,_,_,_,_,_,_,_,_,_,_,.bool false,_,_,_,_,_,_,_,_,_,_,_,_,_,_,_,_,_,_],[]⟩) rfl (p_bin (eqF (by omega))) rfl rfl ?_
          refine W.op (v := .bool false) (fr1 := ⟨[_,_,_,_,_,_,_,_,_,_,_,_,_,_,_,_,_,_,_,_,_,_,_,_,_,_,_,_,_,_,_,_,_,_,_,_,_,_,_,.bool false,_,_,_,_,_,_,_,_,_,_,_,_,_,_,_,_,_],[]⟩) rfl rfl rfl rfl ?_
          refine W.op (v := .bool false) (fr1 := ⟨[_,_,_,_,_,_,_,_,_,_,_,_,_,_,_,_,_,_,_,_,_,_,_,_,_,_,_,_,_,_,_,_,_,_,_,_,_,_,_,_,.bool false,_,_,_,_,_,_,_,_,_,_,_,_,_,_,_,_],[]⟩) rfl rfl rfl rfl ?_
          refine W.op (v := .int .u8 ((e5.toNat : Nat) : Int)) (fr1 := ⟨[_,_,_,_,_,_,_,_,_,_,_,_,_,_,_,_,_,_,_,_,_,_,_,_,_,_,_,_,_,_,_,_,_,_,_,_,_,_,_,_,_,.int .u8 ((e5.toNat : Nat) : Int),_,_,_,_,_,_,_,_,_,_,_,_,_,_,_],[]⟩) rfl rfl rfl rfl ?_
          refine W.op (v := .bool false) (fr1 := ⟨[_,_,_,_,_,_,_,_,_,_,_,_,_,_,_,_,_,_,_,_,_,_,_,_,_,_,_,_,_,_,_,_,_,_,_,_,_,_,_,_,_,_,.bool false,_,_,_,_,_,_,_,_,_,_,_,_,_,_],[]⟩) rfl (p_bin (eqF (by omega))) rfl rfl ?_
          refine W.op (v := .bool false) (fr1 := ⟨[_,_,_,_,_,_,_,_,_,_,_,_,_,_,_,_,_,_,_,_,_,_,_,_,_,_,_,_,_,_,_,_,_,_,_,_,_,_,_,_,_,_,_,.bool false,_,_,_,_,_,_,_,_,_,_,_,_,_],[]⟩) rfl rfl rfl rfl ?_
          refine W.op (v := .bool false) (fr1 := ⟨[_,_,_,_,_,_,_,_,_,_,_,_,_,_,_,_,_,_,_,_,_,_,_,_,_,_,_,_,_,_,_,_,_,_,_,_,_,_,_,_,_,_,_,_,.bool false,_,_,_,_,_,_,_,_,_,_,_,_],[]⟩) rfl rfl rfl rfl ?_
          refine W.op (v := .int .u8 ((e5.toNat : Nat) : Int)) (fr1 := ⟨[_,_,_,_,_,_,_,_,_,_,_,_,_,_,_,_,_,_,_,_,_,_,_,_,_,_,_,_,_,_,_,_,_,_,_,_,_,_,_,_,_,_,_,_,_,.int .u8 ((e5.toNat : Nat) : Int),_,_,_,_,_,_,_,_,_,_,_],[]⟩) rfl rfl rfl rfl ?_
          by_cases h11 : ((e5.toNat : Nat) : Int) = 95
          · skip
            refine W.op (v := .bool true) (fr1 := ⟨[_,_,_,_,_,_,_,_,_,_,_,_,_,_,_,_,_,_,_,_,_,_,_,_,_,_,_,_,_,_,_,_,_,_,_,_,_,_,_,_,_,_,_,_,_,_,.bool true,_,_,_,_,_,_,_,_,_,_],[]⟩) rfl (p_bin (eqT h11)) rfl rfl ?_
            refine W.op (v := .bool true) (fr1 := ⟨[_,_,_,_,_,_,_,_,_,_,_,_,_,_,_,_,_,_,_,_,_,_,_,_,_,_,_,_,_,_,_,_,_,_,_,_,_,_,_,_,_,_,_,_,_,_,_,.bool true,_,_,_,_,_,_,_,_,_],[]⟩) rfl rfl rfl rfl ?_
            refine W.op (v := .bool false) (fr1 := ⟨[_,_,_,_,_,_,_,_,_,_,_,_,_,_,_,_,_,_,_,_,_,_,_,_,_,_,_,_,_,_,_,_,_,_,_,_,_,_,_,_,_,_,_,_,_,_,_,_,.bool false,_,_,_,_,_,_,_,_],[]⟩) rfl rfl rfl rfl ?_
            refine EndsOps.nil ?_
            refine Ends.condF rfl ?_
            refine Ends.skip ?_
            refine Ends.region ?_
            refine W.op (v := .int .i64 ((i : Nat) : Int)) (fr1 := ⟨[_,_,_,_,_,_,_,_,_,.int .i64 ((i : Nat) : Int),_,_,_,_,_,_,_,_,_,_,_,_,_,_,_,_,_,_,_,_,_,_,_,_,_,_,_,_,_,_,_,_,_,_,_,_,_,_,_,_,_,_,_,_,_,_,_],[]⟩) rfl rfl rfl rfl ?_
            refine W.op (v := .int .i64 ((i + 1 : Nat) : Int)) (fr1 := ⟨[_,_,_,_,_,_,_,_,_,_,.int .i64 ((i + 1 : Nat) : Int),_,_,_,_,_,_,_,_,_,_,_,_,_,_,_,_,_,_,_,_,_,_,_,_,_,_,_,_,_,_,_,_,_,_,_,_,_,_,_,_,_,_,_,_,_,_],[]⟩) rfl (p_bin (addI (by omega) (by omega) (by omega))) rfl rfl ?_
            refine W.op (v := .int .i64 ((i + 1 : Nat) : Int)) (fr1 := ⟨[_,_,_,.int .i64 ((i + 1 : Nat) : Int),_,_,_,_,_,_,_,_,_,_,_,_,_,_,_,_,_,_,_,_,_,_,_,_,_,_,_,_,_,_,_,_,_,_,_,_,_,_,_,_,_,_,_,_,_,_,_,_,_,_,_,_,_],[]⟩) rfl rfl rfl rfl ?_
            refine EndsOps.nil ?_
            exact ⟨_,(by omega),i + 1,_,_,_,_,_,_,_,_,_,_,_,_,_,_,_,_,_,_,_,_,_,_,_,_,_,_,_,_,_,_,_,_,_,_,_,_,_,_,_,_,_,_,_,_,_,_,rfl,hO2,rfl,by omega,NoB.step hn he6 (fun hq => hq (by unfold PlainB PlainC; omega))⟩
          · skip
            refine W.op (v := .bool false) (fr1 := ⟨[_,_,_,_,_,_,_,_,_,_,_,_,_,_,_,_,_,_,_,_,_,_,_,_,_,_,_,_,_,_,_,_,_,_,_,_,_,_,_,_,_,_,_,_,_,_,.bool false,_,_,_,_,_,_,_,_,_,_],[]⟩) rfl (p_bin (eqF h11)) rfl rfl ?_
            refine W.op (v := .bool false) (fr1 := ⟨[_,_,_,_,_,_,_,_,_,_,_,_,_,_,_,_,_,_,_,_,_,_,_,_,_,_,_,_,_,_,_,_,_,_,_,_,_,_,_,_,_,_,_,_,_,_,_,.bool false,_,_,_,_,_,_,_,_,_],[]⟩) rfl rfl rfl rfl ?_
            refine W.op (v := .bool true) (fr1 := ⟨[_,_,_,_,_,_,_,_,_,_,_,_,_,_,_,_,_,_,_,_,_,_,_,_,_,_,_,_,_,_,_,_,_,_,_,_,_,_,_,_,_,_,_,_,_,_,_,_,.bool true,_,_,_,_,_,_,_,_],[]⟩) rfl rfl rfl rfl ?_
            refine EndsOps.nil ?_
            refine Ends.condT rfl ?_
            refine Ends.seq ?_
            refine Ends.region ?_
            refine W.op (v := .bool false) (fr1 := ⟨[_,_,.bool false,_,_,_,_,_,_,_,_,_,_,_,_,_,_,_,_,_,_,_,_,_,_,_,_,_,_,_,_,_,_,_,_,_,_,_,_,_,_,_,_,_,_,_,_,_,_,_,_,_,_,_,_,_,_],[]⟩) rfl rfl rfl rfl ?_
            refine EndsOps.nil ?_
            refine Ends.ret ?_
            exact ⟨rfl,rfl,hO2,by
              show Value.bool false = .bool (decide (Titled x))
              exact congrArg Value.bool (decide_eq_false fun hT => hT.2.2 (by rw [badS_at hn he6 (by unfold PlainB PlainC; omega)]; omega)).symm⟩
      · skip
        refine W.op (v := .bool false) (fr1 := ⟨[_,_,_,_,_,_,_,_,_,_,_,_,_,_,_,_,_,_,_,_,_,_,.bool false,_,_,_,_,_,_,_,_,_,_,_,_,_,_,_,_,_,_,_,_,_,_,_,_,_,_,_,_,_,_,_,_,_,_],[]⟩) rfl (p_bin (geF h9)) rfl rfl ?_
        refine W.op (v := .bool false) (fr1 := ⟨[_,_,_,_,_,_,_,_,_,_,_,_,_,_,_,_,_,_,_,_,_,_,_,.bool false,_,_,_,_,_,_,_,_,_,_,_,_,_,_,_,_,_,_,_,_,_,_,_,_,_,_,_,_,_,_,_,_,_],[]⟩) rfl rfl rfl rfl ?_
        refine W.skip (fr1 := ⟨[_,_,_,_,_,_,_,_,_,_,_,_,_,_,_,_,_,_,_,_,_,_,_,_,undef,_,_,_,_,_,_,_,_,_,_,_,_,_,_,_,_,_,_,_,_,_,_,_,_,_,_,_,_,_,_,_,_],[]⟩) rfl rfl ?_
        refine W.skip (fr1 := ⟨[_,_,_,_,_,_,_,_,_,_,_,_,_,_,_,_,_,_,_,_,_,_,_,_,_,undef,_,_,_,_,_,_,_,_,_,_,_,_,_,_,_,_,_,_,_,_,_,_,_,_,_,_,_,_,_,_,_],[]⟩) rfl rfl ?_
        refine W.op (v := .bool false) (fr1 := ⟨[_,_,_,_,_,_,_,_,_,_,_,_,_,_,_,_,_,_,_,_,_,_,_,_,_,_,.bool false,_,_,_,_,_,_,_,_,_,_,_,_,_,_,_,_,_,_,_,_,_,_,_,_,_,_,_,_,_,_],[]⟩) rfl rfl rfl rfl ?_
        refine W.op (v := .bool false) (fr1 := ⟨[_,_,_,_,_,_,_,_,_,_,_,_,_,_,_,_,_,_,_,_,_,_,_,_,_,_,_,.bool false,_,_,_,_,_,_,_,_,_,_,_,_,_,_,_,_,_,_,_,_,_,_,_,_,_,_,_,_,_],[]⟩) rfl rfl rfl rfl ?_
        refine W.op (v := .bool false) (fr1 := ⟨[_,_,_,_,_,_,_,_,_,_,_,_,_,_,_,_,_,_,_,_,_,_,_,_,_,_,_,_,.bool false,_,_,_,_,_,_,_,_,_,_,_,_,_,_,_,_,_,_,_,_,_,_,_,_,_,_,_,_],[]⟩) rfl rfl rfl rfl ?_
        refine W.op (v := .int .u8 ((e5.toNat : Nat) : Int)) (fr1 := ⟨[_,_,_,_,_,_,_,_,_,_,_,_,_,_,_,_,_,_,_,_,_,_,_,_,_,_,_,_,_,.int .u8 ((e5.toNat : Nat) : Int),_,_,_,_,_,_,_,_,_,_,_,_,_,_,_,_,_,_,_,_,_,_,_,_,_,_,_],[]⟩) rfl rfl rfl rfl ?_
        by_cases h12 : (48 : Int) ≤ ((e5.toNat : Nat) : Int)
        · skip
          refine W.op (v := .bool true) (fr1 := ⟨[_,_,_,_,_,_,_,_,_,_,_,_,_,_,_,_,_,_,_,_,_,_,_,_,_,_,_,_,_,_,.bool true,_,_,_,_,_,_,_,_,_,_,_,_,_,_,_,_,_,_,_,_,_,_,_,_,_,_],[]⟩) rfl (p_bin (geT h12)) rfl rfl ?_
          refine W.op (v := .bool true) (fr1 := ⟨[_,_,_,_,_,_,_,_,_,_,_,_,_,_,_,_,_,_,_,_,_,_,_,_,_,_,_,_,_,_,_,.bool true,_,_,_,_,_,_,_,_,_,_,_,_,_,_,_,_,_,_,_,_,_,_,_,_,_],[]⟩) rfl rfl rfl rfl ?_
          refine W.op (v := .int .u8 ((e5.toNat : Nat) : Int)) (fr1 := ⟨[_,_,_,_,_,_,_,_,_,_,_,_,_,_,_,_,_,_,_,_,_,_,_,_,_,_,_,_,_,_,_,_,.int .u8 ((e5.toNat : Nat) : Int),_,_,_,_,_,_,_,_,_,_,_,_,_,_,_,_,_,_,_,_,_,_,_,_],[]⟩) rfl rfl rfl rfl ?_
          by_cases h13 : ((e5.toNat : Nat) : Int) ≤ 57
          · skip
            refine W.op (v := .bool true) (fr1 := ⟨[_,_,_,_,_,_,_,_,_,_,_,_,_,_,_,_,_,_,_,_,_,_,_,_,_,_,_,_,_,_,_,_,_,.bool true,_,_,_,_,_,_,_,_,_,_,_,_,_,_,_,_,_,_,_,_,_,_,_],[]⟩) rfl (p_bin (leT h13)) rfl rfl ?_
            refine W.op (v := .bool true) (fr1 := ⟨[_,_,_,_,_,_,_,_,_,_,_,_,_,_,_,_,_,_,_,_,_,_,_,_,_,_,_,_,_,_,_,_,_,_,.bool true,_,_,_,_,_,_,_,_,_,_,_,_,_,_,_,_,_,_,_,_,_,_],[]⟩) rfl rfl rfl rfl ?_
            refine W.op (v := .bool true) (fr1 := ⟨[_,_,_,_,_,_,_,_,_,_,_,_,_,_,_,_,_,_,_,_,_,_,_,_,_,_,_,_,_,_,_,_,_,_,_,.bool true,_,_,_,_,_,_,_,_,_,_,_,_,_,_,_,_,_,_,_,_,_],[]⟩) rfl rfl rfl rfl ?_
            refine W.op (v := .bool true) (fr1 := ⟨[_,_,_,_,_,_,_,_,_,_,_,_,_,_,_,_,_,_,_,_,_,_,_,_,_,_,_,_,_,_,_,_,_,_,_,_,.bool true,_,_,_,_,_,_,_,_,_,_,_,_,_,_,_,_,_,_,_,_],[]⟩) rfl rfl rfl rfl ?_
            refine W.skip (fr1 := ⟨[_,_,_,_,_,_,_,_,_,_,_,_,_,_,_,_,_,_,_,_,_,_,_,_,_,_,_,_,_,_,_,_,_,_,_,_,_,undef,_,_,_,_,_,_,_,_,_,_,_,_,_,_,_,_,_,_,_],[]⟩) rfl rfl ?_
            refine W.skip (fr1 := ⟨[_,_,_,_,_,_,_,_,_,_,_,_,_,_,_,_,_,_,_,_,_,_,_,_,_,_,_,_,_,_,_,_,_,_,_,_,_,_,undef,_,_,_,_,_,_,_,_,_,_,_,_,_,_,_,_,_,_],[]⟩) rfl rfl ?_
            refine W.op (v := .bool true) (fr1 := ⟨[_,_,_,_,_,_,_,_,_,_,_,_,_,_,_,_,_,_,_,_,_,_,_,_,_,_,_,_,_,_,_,_,_,_,_,_,_,_,_,.bool true,_,_,_,_,_,_,_,_,_,_,_,_,_,_,_,_,_],[]⟩) rfl rfl rfl rfl ?_
            refine W.op (v := .bool true) (fr1 := ⟨[_,_,_,_,_,_,_,_,_,_,_,_,_,_,_,_,_,_,_,_,_,_,_,_,_,_,_,_,_,_,_,_,_,_,_,_,_,_,_,_,.bool true,_,_,_,_,_,_,_,_,_,_,_,_,_,_,_,_],[]⟩) rfl rfl rfl rfl ?_
            refine W.skip (fr1 := ⟨[_,_,_,_,_,_,_,_,_,_,_,_,_,_,_,_,_,_,_,_,_,_,_,_,_,_,_,_,_,_,_,_,_,_,_,_,_,_,_,_,_,undef,_,_,_,_,_,_,_,_,_,_,_,_,_,_,_],[]⟩) rfl rfl ?_
            refine W.skip (fr1 := ⟨[_,_,_,_,_,_,_,_,_,_,_,_,_,_,_,_,_,_,_,_,_,_,_,_,_,_,_,_,_,_,_,_,_,_,_,_,_,_,_,_,_,_,undef,_,_,_,_,_,_,_,_,_,_,_,_,_,_],[]⟩) rfl rfl ?_
            refine W.op (v := .bool true) (fr1 := ⟨[_,_,_,_,_,_,_,_,_,_,_,_,_,_,_,_,_,_,_,_,_,_,_,_,_,_,_,_,_,_,_,_,_,_,_,_,_,_,_,_,_,_,_,.bool true,_,_,_,_,_,_,_,_,_,_,_,_,_],[]⟩) rfl rfl rfl rfl ?_
            refine W.op (v := .bool true) (fr1 := ⟨[_,_,_,_,_,_,_,_,_,_,_,_,_,_,_,_,_,_,_,_,_,_,_,_,_,_,_,_,_,_,_,_,_,_,_,_,_,_,_,_,_,_,_,_,.bool true,_,_,_,_,_,_,_,_,_,_,_,_],[]⟩) rfl rfl rfl rfl ?_
            refine W.skip (fr1 := ⟨[_,_,_,_,_,_,_,_,_,_,_,_,_,_,_,_,_,_,_,_,_,_,_,_,_,_,_,_,_,_,_,_,_,_,_,_,_,_,_,_,_,_,_,_,_,undef,_,_,_,_,_,_,_,_,_,_,_],[]⟩) rfl rfl ?_
            refine W.skip (fr1 := ⟨[_,_,_,_,_,_,_,_,_,_,_,_,_,_,_,_,_,_,_,_,_,_,_,_,_,_,_,_,_,_,_,_,_,_,_,_,_,_,_,_,_,_,_,_,_,_,undef,_,_,_,_,_,_,_,_,_,_],[]⟩) rfl rfl ?_
            refine W.op (v := .bool true) (fr1 := ⟨[_,_,_,_,_,_,_,_,_,_,_,_,_,_,_,_,_,_,_,_,_,_,_,_,_,_,_,_,_,_,_,_,_,_,_,_,_,_,_,_,_,_,_,_,_,_,_,.bool true,_,_,_,_,_,_,_,_,_],[]⟩) rfl rfl rfl rfl ?_
            refine W.op (v := .bool false) (fr1 := ⟨[_,_,_,_,_,_,_,_,_,_,_,_,_,_,_,_,_,_,_,_,_,_,_,_,_,_,_,_,_,_,_,_,_,_,_,_,_,_,_,_,_,_,_,_,_,_,_,_,.bool false,_,_,_,_,_,_,_,_],[]⟩) rfl rfl rfl rfl ?_
            refine EndsOps.nil ?_
            refine Ends.condF rfl ?_
            refine Ends.skip ?_
            refine Ends.region ?_
            refine W.op (v := .int .i64 ((i : Nat) : Int)) (fr1 := ⟨[_,_,_,_,_,_,_,_,_,.int .i64 ((i : Nat) : Int),_,_,_,_,_,_,_,_,_,_,_,_,_,_,_,_,_,_,_,_,_,_,_,_,_,_,_,_,_,_,_,_,_,_,_,_,_,_,_,_,_,_,_,_,_,_,_],[]⟩) rfl rfl rfl rfl ?_
            refine W.op (v := .int .i64 ((i + 1 : Nat) : Int)) (fr1 := ⟨[_,_,_,_,_,_,_,_,_,_,.int .i64 ((i + 1 : Nat) : Int),_,_,_,_,_,_,_,_,_,_,_,_,_,_,_,_,_,_,_,_,_,_,_,_,_,_,_,_,_,_,_,_,_,_,_,_,_,_,_,_,_,_,_,_,_,_],[]⟩) rfl (p_bin (addI (by omega) (by omega) (by omega))) rfl rfl ?_
            refine W.op (v := .int .i64 ((i + 1 : Nat) : Int)) (fr1 := ⟨[_,_,_,.int .i64 ((i + 1 : Nat) : Int),_,_,_,_,_,_,_,_,_,_,_,_,_,_,_,_,_,_,_,_,_,_,_,_,_,_,_,_,_,_,_,_,_,_,_,_,_,_,_,_,_,_,_,_,_,_,_,_,_,_,_,_,_],[]⟩) rfl rfl rfl rfl ?_
            refine EndsOps.nil ?_
            exact ⟨_,(by omega),i + 1,_,_,_,_,_,_,_,_,_,_,_,_,_,_,_,_,_,_,_,_,_,_,_,_,_,_,_,_,_,_,_,_,_,_,_,_,_,_,_,_,_,_,_,_,_,_,rfl,hO2,rfl,by omega,NoB.step hn he6 (fun hq => hq (by unfold PlainB PlainC; omega))⟩
          · skip
            refine W.op (v := .bool false) (fr1 := ⟨[_,_,_,_,_,_,_,_,_,_,_,_,_,_,_,_,_,_,_,_,_,_,_,_,_,_,_,_,_,_,_,_,_,.bool false,_,_,_,_,_,_,_,_,_,_,_,_,_,_,_,_,_,_,_,_,_,_,_],[]⟩) rfl (p_bin (leF h13)) rfl rfl ?_
            refine W.op (v := .bool false) (fr1 := ⟨[_,_,_,_,_,_,_,_,_,_,_,_,_,_,_,_,_,_,_,_,_,_,_,_,_,_,_,_,_,_,_,_,_,_,.bool false,_,_,_,_,_,_,_,_,_,_,_,_,_,_,_,_,_,_,_,_,_,_],[]⟩) rfl rfl rfl rfl ?_
            refine W.op (v := .bool false) (fr1 := ⟨[_,_,_,_,_,_,_,_,_,_,_,_,_,_,_,_,_,_,_,_,_,_,_,_,_,_,_,_,_,_,_,_,_,_,_,.bool false,_,_,_,_,_,_,_,_,_,_,_,_,_,_,_,_,_,_,_,_,_],[]⟩) rfl rfl rfl rfl ?_
            refine W.op (v := .bool false) (fr1 := ⟨[_,_,_,_,_,_,_,_,_,_,_,_,_,_,_,_,_,_,_,_,_,_,_,_,_,_,_,_,_,_,_,_,_,_,_,_,.bool false,_,_,_,_,_,_,_,_,_,_,_,_,_,_,_,_,_,_,_,_],[]⟩) rfl rfl rfl rfl ?_
            refine W.op (v := .int .u8 ((e5.toNat : Nat) : Int)) (fr1 := ⟨[_,_,_,_,_,_,_,_,_,_,_,_,_,_,_,_,_,_,_,_,_,_,_,_,_,_,_,_,_,_,_,_,_,_,_,_,_,.int .u8 ((e5.toNat : Nat) : Int),_,_,_,_,_,_,_,_,_,_,_,_,_,_,_,_,_,_,_],[]⟩) rfl rfl rfl rfl ?_
            refine W.op (v := .bool false) (fr1 := ⟨[_,_,_,_,_,_,_,_,_,_,_,_,_,_,_,_,_,_,_,_,_,_,_,_,_,_,_,_,_,_,_,_,_,_,_,_,_,_,.bool false,_,_,_,_,_,_,_,_,_,_,_,_,_,_,_,_,_,_],[]⟩) rfl (p_bin (eqF (by omega))) rfl rfl ?_
            refine W.op (v := .bool false) (fr1 := ⟨[_,_,_,_,_,_,_,_,_,_,_,_,_,_,_,_,_,_,_,_,_,_,_,_,_,_,_,_,_,_,_,_,_,_,_,_,_,_,_,.bool false,_,_,_,_,_,_,_,_,_,_,_,_,_,_,_,_,_],[]⟩) rfl rfl rfl rfl ?_
            refine W.op (v := .bool false) (fr1 := ⟨[_,_,_,_,_,_,_,_,_,_,_,_,_,_,_,_,_,_,_,_,_,_,_,_,_,_,_,_,_,_,_,_,_,_,_,_,_,_,_,_,.bool false,_,_,_,_,_,_,_,_,_,_,_,_,_,_,_,_],[]⟩) rfl rfl rfl rfl ?_
            refine W.op (v := .int .u8 ((e5.toNat : Nat) : Int)) (fr1 := ⟨[_,_,_,_,_,_,_,_,_,_,_,_,_,_,_,_,_,_,_,_,_,_,_,_,_,_,_,_,_,_,_,_,_,_,_,_,_,_,_,_,_,.int .u8 ((e5.toNat : Nat) : Int),_,_,_,_,_,_,_,_,_,_,_,_,_,_,_],[]⟩) rfl rfl rfl rfl ?_
            refine W.op (v := .bool false) (fr1 := ⟨[_,_,_,_,_,_,_,_,_,_,_,_,_,_,_,_,_,_,_,_,_,_,_,_,_,_,_,_,_,_,_,_,_,_,_,_,_,_,_,_,_,_,.bool false,_,_,_,_,_,_,_,_,_,_,_,_,_,_],[]⟩) rfl (p_bin (eqF (by omega))) rfl rfl ?_
            refine W.op (v := .bool false) (fr1 := ⟨[_,_,_,_,_,_,_,_,_,_,_,_,_,_,_,_,_,_,_,_,_,_,_,_,_,_,_,_,_,_,_,_,_,_,_,_,_,_,_,_,_,_,_,.bool false,_,_,_,_,_,_,_,_,_,_,_,_,_],[]⟩) rfl rfl rfl rfl ?_
            refine W.op (v := .bool false) (fr1 := ⟨[_,_,_,_,_,_,_,_,_,_,_,_,_,_,_,_,_,_,_,_,_,_,_,_,_,_,_,_,_,_,_,_,_,_,_,_,_,_,_,_,_,_,_,_,.bool false,_,_,_,_,_,_,_,_,_,_,_,_],[]⟩) rfl rfl rfl rfl ?_
            refine W.op (v := .int .u8 ((e5.toNat : Nat) : Int)) (fr1 := ⟨[_,_,_,_,_,_,_,_,_,_,_,_,_,_,_,_,_,_,_,_,_,_,_,_,_,_,_,_,_,_,_,_,_,_,_,_,_,_,_,_,_,_,_,_,_,.int .u8 ((e5.toNat : Nat) : Int),_,_,_,_,_,_,_,_,_,_,_],[]⟩) rfl rfl rfl rfl ?_
            refine W.op (v := .bool false) (fr1 := ⟨[_,_,_,_,_,_,_,_,_,_,_,_,_,_,_,_,_,_,_,_,_,_,_,_,_,_,_,_,_,_,_,_,_,_,_,_,_,_,_,_,_,_,_,_,_,_,.bool false,_,_,_,_,_,_,_,_,_,_],[]⟩) rfl (p_bin (eqF (by omega))) rfl rfl ?_
            refine W.op (v := .bool false) (fr1 := ⟨[_,_,_,_,_,_,_,_,_,_,_,_,_,_,_,_,_,_,_,_,_,_,_,_,_,_,_,_,_,_,_,_,_,_,_,_,_,_,_,_,_,_,_,_,_,_,_,.bool false,_,_,_,_,_,_,_,_,_],[]⟩) rfl rfl rfl rfl ?_
            refine W.op (v := .bool true) (fr1 := ⟨[_,_,_,_,_,_,_,_,_,_,_,_,_,_,_,_,_,_,_,_,_,_,_,_,_,_,_,_,_,_,_,_,_,_,_,_,_,_,_,_,_,_,_,_,_,_,_,_,.bool true,_,_,_,_,_,_,_,_],[]⟩) rfl rfl rfl rfl ?_
            refine EndsOps.nil ?_
            refine Ends.condT rfl ?_
            refine Ends.seq ?_
            refine Ends.region ?_
            refine W.op (v := .bool false) (fr1 := ⟨[_,_,.bool false,_,_,_,_,_,_,_,_,_,_,_,_,_,_,_,_,_,_,_,_,_,_,_,_,_,_,_,_,_,_,_,_,_,_,_,_,_,_,_,_,_,_,_,_,_,_,_,_,_,_,_,_,_,_],[]⟩) rfl rfl rfl rfl ?_
            refine EndsOps.nil ?_
            refine Ends.ret ?_
            exact ⟨rfl,rfl,hO2,by
              show Value.bool false = .bool (decide (Titled x))
              exact congrArg Value.bool (decide_eq_false fun hT => hT.2.2 (by rw [badS_at hn he6 (by unfold PlainB PlainC; omega)]; omega)).symm⟩
        · skip
          refine W.op (v := .bool false) (fr1 := ⟨[_,_,_,_,_,_,_,_,_,_,_,_,_,_,_,_,_,_,_,_,_,_,_,_,_,_,_,_,_,_,.bool false,_,_,_,_,_,_,_,_,_,_,_,_,_,_,_,_,_,_,_,_,_,_,_,_,_,_],[]⟩) rfl (p_bin (geF h12)) rfl rfl ?_
          refine W.op (v := .bool false) (fr1 := ⟨[_,_,_,_,_,_,_,_,_,_,_,_,_,_,_,_,_,_,_,_,_,_,_,_,_,_,_,_,_,_,_,.bool false,_,_,_,_,_,_,_,_,_,_,_,_,_,_,_,_,_,_,_,_,_,_,_,_,_],[]⟩) rfl rfl rfl rfl ?_
          refine W.skip (fr1 := ⟨[_,_,_,_,_,_,_,_,_,_,_,_,_,_,_,_,_,_,_,_,_,_,_,_,_,_,_,_,_,_,_,_,undef,_,_,_,_,_,_,_,_,_,_,_,_,_,_,_,_,_,_,_,_,_,_,_,_],[]⟩) rfl rfl ?_
          refine W.skip (fr1 := ⟨[_,_,_,_,_,_,_,_,_,_,_,_,_,_,_,_,_,_,_,_,_,_,_,_,_,_,_,_,_,_,_,_,_,undef,_,_,_,_,_,_,_,_,_,_,_,_,_,_,_,_,_,_,_,_,_,_,_],[]⟩) rfl rfl ?_
          refine W.op (v := .bool false) (fr1 := ⟨[_,_,_,_,_,_,_,_,_,_,_,_,_,_,_,_,_,_,_,_,_,_,_,_,_,_,_,_,_,_,_,_,_,_,.bool false,_,_,_,_,_,_,_,_,_,_,_,_,_,_,_,_,_,_,_,_,_,_],[]⟩) rfl rfl rfl rfl ?_
          refine W.op (v := .bool false) (fr1 := ⟨[_,_,_,_,_,_,_,_,_,_,_,_,_,_,_,_,_,_,_,_,_,_,_,_,_,_,_,_,_,_,_,_,_,_,_,.bool false,_,_,_,_,_,_,_,_,_,_,_,_,_,_,_,_,_,_,_,_,_],[]⟩) rfl rfl rfl rfl ?_
          refine W.op (v := .bool false) (fr1 := ⟨[_,_,_,_,_,_,_,_,_,_,_,_,_,_,_,_,_,_,_,_,_,_,_,_,_,_,_,_,_,_,_,_,_,_,_,_,.bool false,_,_,_,_,_,_,_,_,_,_,_,_,_,_,_,_,_,_,_,_],[]⟩) rfl rfl rfl rfl ?_
          refine W.op (v := .int .u8 ((e5.toNat : Nat) : Int)) (fr1 := ⟨[_,_,_,_,_,_,_,_,_,_,_,_,_,_,_,_,_,_,_,_,_,_,_,_,_,_,_,_,_,_,_,_,_,_,_,_,_,.int .u8 ((e5.toNat : Nat) : Int),_,_,_,_,_,_,_,_,_,_,_,_,_,_,_,_,_,_,_],[]⟩) rfl rfl rfl rfl ?_
          by_cases h14 : ((e5.toNat : Nat) : Int) = 46
          · skip
            refine W.op (v := .bool true) (fr1 := ⟨[_,_,_,_,_,_,_,_,_,_,_,_,_,_,_,_,_,_,_,_,_,_,_,_,_,_,_,_,_,_,_,_,_,_,_,_,_,_,.bool true,_,_,_,_,_,_,_,_,_,_,_,_,_,_,_,_,_,_],[]⟩) rfl (p_bin (eqT h14)) rfl rfl ?_
            refine W.op (v := .bool true) (fr1 := ⟨[_,_,_,_,_,_,_,_,_,_,_,_,_,_,_,_,_,_,_,_,_,_,_,_,_,_,_,_,_,_,_,_,_,_,_,_,_,_,_,.bool true,_,_,_,_,_,_,_,_,_,_,_,_,_,_,_,_,_],[]⟩) rfl rfl rfl rfl ?_
            refine W.op (v := .bool true) (fr1 := ⟨[_,_,_,_,_,_,_,_,_,_,_,_,_,_,_,_,_,_,_,_,_,_,_,_,_,_,_,_,_,_,_,_,_,_,_,_,_,_,_,_,.bool true,_,_,_,_,_,_,_,_,_,_,_,_,_,_,_,_],[]⟩) rfl rfl rfl rfl ?_
            refine W.skip (fr1 := ⟨[_,_,_,_,_,_,_,_,_,_,_,_,_,_,_,_,_,_,_,_,_,_,_,_,_,_,_,_,_,_,_,_,_,_,_,_,_,_,_,_,_,undef,_,_,_,_,_,_,_,_,_,_,_,_,_,_,_],[]⟩) rfl rfl ?_
            refine W.skip (fr1 := ⟨[_,_,_,_,_,_,_,_,_,_,_,_,_,_,_,_,_,_,_,_,_,_,_,_,_,_,_,_,_,_,_,_,_,_,_,_,_,_,_,_,_,_,undef,_,_,_,_,_,_,_,_,_,_,_,_,_,_],[]⟩) rfl rfl ?_
            refine W.op (v := .bool true) (fr1 := ⟨[_,_,_,_,_,_,_,_,_,_,_,_,_,_,_,_,_,_,_,_,_,_,_,_,_,_,_,_,_,_,_,_,_,_,_,_,_,_,_,_,_,_,_,.bool true,_,_,_,_,_,_,_,_,_,_,_,_,_],[]⟩) rfl rfl rfl rfl ?_
            refine W.op (v := .bool true) (fr1 := ⟨[_,_,_,_,_,_,_,_,_,_,_,_,_,_,_,_,_,_,_,_,_,_,_,_,_,_,_,_,_,_,_,_,_,_,_,_,_,_,_,_,_,_,_,_,.bool true,_,_,_,_,_,_,_,_,_,_,_,_],[]⟩) rfl rfl rfl rfl ?_
            refine W.skip (fr1 := ⟨[_,_,_,_,_,_,_,_,_,_,_,_,_,_,_,_,_,_,_,_,_,_,_,_,_,_,_,_,_,_,_,_,_,_,_,_,_,_,_,_,_,_,_,_,_,undef,_,_,_,_,_,_,_,_,_,_,_],[]⟩) rfl rfl ?_
            refine W.skip (fr1 := ⟨[_,_,_,_,_,_,_,_,_,_,_,_,_,_,_,_,_,_,_,_,_,_,_,_,_,_,_,_,_,_,_,_,_,_,_,_,_,_,_,_,_,_,_,_,_,_,undef,_,_,_,_,_,_,_,_,_,_],[]⟩) rfl rfl ?_
            refine W.op (v := .bool true) (fr1 := ⟨[_,_,_,_,_,_,_,_,_,_,_,_,_,_,_,_,_,_,_,_,_,_,_,_,_,_,_,_,_,_,_,_,_,_,_,_,_,_,_,_,_,_,_,_,_,_,_,.bool true,_,_,_,_,_,_,_,_,_],[]⟩) rfl rfl rfl rfl ?_
            refine W.op (v := .bool false) (fr1 := ⟨[_,_,_,_,_,_,_,_,_,_,_,_,_,_,_,_,_,_,_,_,_,_,_,_,_,_,_,_,_,_,_,_,_,_,_,_,_,_,_,_,_,_,_,_,_,_,_,_,.bool false,_,_,_,_,_,_,_,_],[]⟩) rfl rfl rfl rfl ?_
            refine EndsOps.nil ?_
            refine Ends.condF rfl ?_
            refine Ends.skip ?_
            refine Ends.region ?_
            refine W.op (v := .int .i64 ((i : Nat) : Int)) (fr1 := ⟨[_,_,_,_,_,_,_,_,_,.int .i64 ((i : Nat) : Int),_,_,_,_,_,_,_,_,_,_,_,_,_,_,_,_,_,_,_,_,_,_,_,_,_,_,_,_,_,_,_,_,_,_,_,_,_,_,_,_,_,_,_,_,_,_,_],[]⟩) rfl rfl rfl rfl ?_
            refine W.op (v := .int .i64 ((i + 1 : Nat) : Int)) (fr1 := ⟨[_,_,_,_,_,_,_,_,_,_,.int .i64 ((i + 1 : Nat) : Int),_,_,_,_,_,_,_,_,_,_,_,_,_,_,_,_,_,_,_,_,_,_,_,_,_,_,_,_,_,_,_,_,_,_,_,_,_,_,_,_,_,_,_,_,_,_],[]⟩) rfl (p_bin (addI (by omega) (by omega) (by omega))) rfl rfl ?_
            refine W.op (v := .int .i64 ((i + 1 : Nat) : Int)) (fr1 := ⟨[_,_,_,.int .i64 ((i + 1 : Nat) : Int),_,_,_,_,_,_,_,_,_,_,_,_,_,_,_,_,_,_,_,_,_,_,_,_,_,_,_,_,_,_,_,_,_,_,_,_,_,_,_,_,_,_,_,_,_,_,_,_,_,_,_,_,_],[]⟩) rfl rfl rfl rfl ?_
            refine EndsOps.nil ?_
            exact ⟨_,(by omega),i + 1,_,_,_,_,_,_,_,_,_,_,_,_,_,_,_,_,_,_,_,_,_,_,_,_,_,_,_,_,_,_,_,_,_,_,_,_,_,_,_,_,_,_,_,_,_,_,rfl,hO2,rfl,by omega,NoB.step hn he6 (fun hq => hq (by unfold PlainB PlainC; omega))⟩
          · skip
            refine W.op (v := .bool false) (fr1 := ⟨[_,_,_,_,_,_,_,_,_,_,_,_,_,_,_,_,_,_,_,_,_,_,_,_,_,_,_,_,_,_,_,_,_,_,_,_,_,_,.bool false,_,_,_,_,_,_,_,_,_,_,_,_,_,_,_,_,_,_],[]⟩) rfl (p_bin (eqF h14)) rfl rfl ?_
            refine W.op (v := .bool false) (fr1 := ⟨[_,_,_,_,_,_,_,_,_,_,_,_,_,_,_,_,_,_,_,_,_,_,_,_,_,_,_,_,_,_,_,_,_,_,_,_,_,_,_,.bool false,_,_,_,_,_,_,_,_,_,_,_,_,_,_,_,_,_],[]⟩) rfl rfl rfl rfl ?_
            refine W.op (v := .bool false) (fr1 := ⟨[_,_,_,_,_,_,_,_,_,_,_,_,_,_,_,_,_,_,_,_,_,_,_,_,_,_,_,_,_,_,_,_,_,_,_,_,_,_,_,_,.bool false,_,_,_,_,_,_,_,_,_,_,_,_,_,_,_,_],[]⟩) rfl rfl rfl rfl ?_
            refine W.op (v := .int .u8 ((e5.toNat : Nat) : Int)) (fr1 := ⟨[_,_,_,_,_,_,_,_,_,_,_,_,_,_,_,_,_,_,_,_,_,_,_,_,_,_,_,_,_,_,_,_,_,_,_,_,_,_,_,_,_,.int .u8 ((e5.toNat : Nat) : Int),_,_,_,_,_,_,_,_,_,_,_,_,_,_,_],[]⟩) rfl rfl rfl rfl ?_
            by_cases h15 : ((e5.toNat : Nat) : Int) = 45
            · skip
              refine W.op (v := .bool true) (fr1 := ⟨[_,_,_,_,_,_,_,_,_,_,_,_,_,_,_,_,_,_,_,_,_,_,_,_,_,_,_,_,_,_,_,_,_,_,_,_,_,_,_,_,_,_,.bool true,_,_,_,_,_,_,_,_,_,_,_,_,_,_],[]⟩) rfl (p_bin (eqT h15)) rfl rfl ?_
              refine W.op (v := .bool true) (fr1 := ⟨[_,_,_,_,_,_,_,_,_,_,_,_,_,_,_,_,_,_,_,_,_,_,_,_,_,_,_,_,_,_,_,_,_,_,_,_,_,_,_,_,_,_,_,.bool true,_,_,_,_,_,_,_,_,_,_,_,_,_],[]⟩) rfl rfl rfl rfl ?_
              refine W.op (v := .bool true) (fr1 := ⟨[_,_,_,_,_,_,_,_,_,_,_,_,_,_,_,_,_,_,_,_,_,_,_,_,_,_,_,_,_,_,_,_,_,_,_,_,_,_,_,_,_,_,_,_,.bool true,_,_,_,_,_,_,_,_,_,_,_,_],[]⟩) rfl rfl rfl rfl ?_
              refine W.skip (fr1 := ⟨[_,_,_,_,_,_,_,_,_,_,_,_,_,_,_,_,_,_,_,_,_,_,_,_,_,_,_,_,_,_,_,_,_,_,_,_,_,_,_,_,_,_,_,_,_,undef,_,_,_,_,_,_,_,_,_,_,_],[]⟩) rfl rfl ?_
              refine W.skip (fr1 := ⟨[_,_,_,_,_,_,_,_,_,_,_,_,_,_,_,_,_,_,_,_,_,_,_,_,_,_,_,_,_,_,_,_,_,_,_,_,_,_,_,_,_,_,_,_,_,_,undef,_,_,_,_,_,_,_,_,_,_],[]⟩) rfl rfl ?_
              refine W.op (v := .bool true) (fr1 := ⟨[_,_,_,_,_,_,_,_,_,_,_,_,_,_,_,_,_,_,_,_,_,_,_,_,_,_,_,_,_,_,_,_,_,_,_,_,_,_,_,_,_,_,_,_,_,_,_,.bool true,_,_,_,_,_,_,_,_,_],[]⟩) rfl rfl rfl rfl ?_
              refine W.op (v := .bool false) (fr1 := ⟨[_,_,_,_,_,_,_,_,_,_,_,_,_,_,_,_,_,_,_,_,_,_,_,_,_,_,_,_,_,_,_,_,_,_,_,_,_,_,_,_,_,_,_,_,_,_,_,_,.bool false,_,_,_,_,_,_,_,_],[]⟩) rfl rfl rfl rfl ?_
              refine EndsOps.nil ?_
              refine Ends.condF rfl ?_
              refine Ends.skip ?_
              refine Ends.region ?_
              refine W.op (v := .int .i64 ((i : Nat) : Int)) (fr1 := ⟨[_,_,_,_,_,_,_,_,_,.int .i64 ((i : Nat) : Int),_,_,_,_,_,_,_,_,_,_,_,_,_,_,_,_,_,_,_,_,_,_,_,_,_,_,_,_,_,_,_,_,_,_,_,_,_,_,_,_,_,_,_,_,_,_,_],[]⟩) rfl rfl rfl rfl ?_
              refine W.op (v := .int .i64 ((i + 1 : Nat) : Int)) (fr1 := ⟨[_,_,_,_,_,_,_,_,_,_,.int .i64 ((i + 1 : Nat) : Int),_,_,_,_,_,_,_,_,_,_,_,_,_,_,_,_,_,_,_,_,_,_,_,_,_,_,_,_,_,_,_,_,_,_,_,_,_,_,_,_,_,_,_,_,_,_],[]⟩) rfl (p_bin (addI (by omega) (by omega) (by omega))) rfl rfl ?_
              refine W.op (v := .int .i64 ((i + 1 : Nat) : Int)) (fr1 := ⟨[_,_,_,.int .i64 ((i + 1 : Nat) : Int),_,_,_,_,_,_,_,_,_,_,_,_,_,_,_,_,_,_,_,_,_,_,_,_,_,_,_,_,_,_,_,_,_,_,_,_,_,_,_,_,_,_,_,_,_,_,_,_,_,_,_,_,_],[]⟩) rfl rfl rfl rfl ?_
              refine EndsOps.nil ?_
              exact ⟨_,(by omega),i + 1,_,_,_,_,_,_,_,_,_,_,_,_,_,_,_,_,_,_,_,_,_,_,_,_,_,_,_,_,_,_,_,_,_,_,_,_,_,_,_,_,_,_,_,_,_,_,rfl,hO2,rfl,by omega,NoB.step hn he6 (fun hq => hq (by unfold PlainB PlainC; omega))⟩
            · skip
              refine W.op (v := .bool false) (fr1 := ⟨[_,_,_,_,_,_,_,_,_,_,_,_,_,_,_,_,_,_,_,_,_,_,_,_,_,_,_,_,_,_,_,_,_,_,_,_,_,_,_,_,_,_,.bool false,_,_,_,_,_,_,_,_,_,_,_,_,_,_],[]⟩) rfl (p_bin (eqF h15)) rfl rfl ?_
              refine W.op (v := .bool false) (fr1 := ⟨[_,_,_,_,_,_,_,_,_,_,_,_,_,_,_,_,_,_,_,_,_,_,_,_,_,_,_,_,_,_,_,_,_,_,_,_,_,_,_,_,_,_,_,.bool false,_,_,_,_,_,_,_,_,_,_,_,_,_],[]⟩) rfl rfl rfl rfl ?_
              refine W.op (v := .bool false) (fr1 := ⟨[_,_,_,_,_,_,_,_,_,_,_,_,_,_,_,_,_,_,_,_,_,_,_,_,_,_,_,_,_,_,_,_,_,_,_,_,_,_,_,_,_,_,_,_,.bool false,_,_,_,_,_,_,_,_,_,_,_,_],[]⟩) rfl rfl rfl rfl ?_
              refine W.op (v := .int .u8 ((e5.toNat : Nat) : Int)) (fr1 := ⟨[_,_,_,_,_,_,_,_,_,_,_,_,_,_,_,_,_,_,_,_,_,_,_,_,_,_,_,_,_,_,_,_,_,_,_,_,_,_,_,_,_,_,_,_,_,.int .u8 ((e5.toNat : Nat) : Int),_,_,_,_,_,_,_,_,_,_,_],[]⟩) rfl rfl rfl rfl ?_
              refine W.op (v := .bool false) (fr1 := ⟨[_,_,_,_,_,_,_,_,_,_,_,_,_,_,_,_,_,_,_,_,_,_,_,_,_,_,_,_,_,_,_,_,_,_,_,_,_,_,_,_,_,_,_,_,_,_,.bool false,_,_,_,_,_,_,_,_,_,_],[]⟩) rfl (p_bin (eqF (by omega))) rfl rfl ?_
              refine W.op (v := .bool false) (fr1 := ⟨[_,_,_,_,_,_,_,_,_,_,_,_,_,_,_,_,_,_,_,_,_,_,_,_,_,_,_,_,_,_,_,_,_,_,_,_,_,_,_,_,_,_,_,_,_,_,_,.bool false,_,_,_,_,_,_,_,_,_],[]⟩) rfl rfl rfl rfl ?_
              refine W.op (v := .bool true) (fr1 := ⟨[_,_,_,_,_,_,_,_,_,_,_,_,_,_,_,_,_,_,_,_,_,_,_,_,_,_,_,_,_,_,_,_,_,_,_,_,_,_,_,_,_,_,_,_,_,_,_,_,.bool true,_,_,_,_,_,_,_,_],[]⟩) rfl rfl rfl rfl ?_
              refine EndsOps.nil ?_
              refine Ends.condT rfl ?_
              refine Ends.seq ?_
              refine Ends.region ?_
              refine W.op (v := .bool false) (fr1 := ⟨[_,_,.bool false,_,_,_,_,_,_,_,_,_,_,_,_,_,_,_,_,_,_,_,_,_,_,_,_,_,_,_,_,_,_,_,_,_,_,_,_,_,_,_,_,_,_,_,_,_,_,_,_,_,_,_,_,_,_],[]⟩) rfl rfl rfl rfl ?_
              refine EndsOps.nil ?_
              refine Ends.ret ?_
              exact ⟨rfl,rfl,hO2,by
                show Value.bool false = .bool (decide (Titled x))
                exact congrArg Value.bool (decide_eq_false fun hT => hT.2.2 (by rw [badS_at hn he6 (by unfold PlainB PlainC; omega)]; omega)).symm⟩
  · skip
    refine W.op (v := .bool false) (fr1 := ⟨[_,_,_,_,_,_,_,_,.bool false,_,_,_,_,_,_,_,_,_,_,_,_,_,_,_,_,_,_,_,_,_,_,_,_,_,_,_,_,_,_,_,_,_,_,_,_,_,_,_,_,_,_,_,_,_,_,_,_],[]⟩) rfl (p_bin (ltF h4)) rfl rfl ?_
    refine EndsOps.nil ?_
    refine Ends.condF rfl ?_
    refine Ends.exit ?_
    refine W.outT rfl ?_
    refine Ends.seq ?_
    refine Ends.region ?_
    refine W.op (v := .string x) (fr1 := ⟨[_,_,_,_,_,_,_,_,_,_,_,_,_,_,_,_,_,_,_,_,_,_,_,_,_,_,_,_,_,_,_,_,_,_,_,_,_,_,_,_,_,_,_,_,_,_,_,_,_,.string x,_,_,_,_,_,_,_],[]⟩) rfl rfl rfl rfl ?_
    refine W.op (v := .int .i64 (((B x).length : Nat) : Int)) (fr1 := ⟨[_,_,_,_,_,_,_,_,_,_,_,_,_,_,_,_,_,_,_,_,_,_,_,_,_,_,_,_,_,_,_,_,_,_,_,_,_,_,_,_,_,_,_,_,_,_,_,_,_,_,.int .i64 (((B x).length : Nat) : Int),_,_,_,_,_,_],[]⟩) rfl rfl rfl rfl ?_
    by_cases h16 : (1 : Int) ≤ (((B x).length : Nat) : Int)
    · skip
      refine W.op (v := .bool true) (fr1 := ⟨[_,_,_,_,_,_,_,_,_,_,_,_,_,_,_,_,_,_,_,_,_,_,_,_,_,_,_,_,_,_,_,_,_,_,_,_,_,_,_,_,_,_,_,_,_,_,_,_,_,_,_,.bool true,_,_,_,_,_],[]⟩) rfl (p_bin (geT h16)) rfl rfl ?_
      refine W.op (v := .bool true) (fr1 := ⟨[_,_,_,_,_,_,_,_,_,_,_,_,_,_,_,_,_,_,_,_,_,_,_,_,_,_,_,_,_,_,_,_,_,_,_,_,_,_,_,_,_,_,_,_,_,_,_,_,_,_,_,_,.bool true,_,_,_,_],[]⟩) rfl rfl rfl rfl ?_
      refine W.op (v := .string x) (fr1 := ⟨[_,_,_,_,_,_,_,_,_,_,_,_,_,_,_,_,_,_,_,_,_,_,_,_,_,_,_,_,_,_,_,_,_,_,_,_,_,_,_,_,_,_,_,_,_,_,_,_,_,_,_,_,_,.string x,_,_,_],[]⟩) rfl rfl rfl rfl ?_
      refine W.op (v := .int .i64 (((B x).length : Nat) : Int)) (fr1 := ⟨[_,_,_,_,_,_,_,_,_,_,_,_,_,_,_,_,_,_,_,_,_,_,_,_,_,_,_,_,_,_,_,_,_,_,_,_,_,_,_,_,_,_,_,_,_,_,_,_,_,_,_,_,_,_,.int .i64 (((B x).length : Nat) : Int),_,_],[]⟩) rfl rfl rfl rfl ?_
      by_cases h17 : (((B x).length : Nat) : Int) ≤ 40
      · skip
        refine W.op (v := .bool true) (fr1 := ⟨[_,_,_,_,_,_,_,_,_,_,_,_,_,_,_,_,_,_,_,_,_,_,_,_,_,_,_,_,_,_,_,_,_,_,_,_,_,_,_,_,_,_,_,_,_,_,_,_,_,_,_,_,_,_,_,.bool true,_],[]⟩) rfl (p_bin (leT h17)) rfl rfl ?_
        refine W.op (v := .bool true) (fr1 := ⟨[_,_,_,_,_,_,_,_,_,_,_,_,_,_,_,_,_,_,_,_,_,_,_,_,_,_,_,_,_,_,_,_,_,_,_,_,_,_,_,_,_,_,_,_,_,_,_,_,_,_,_,_,_,_,_,_,.bool true],[]⟩) rfl rfl rfl rfl ?_
        refine W.op (v := .bool true) (fr1 := ⟨[_,_,.bool true,_,_,_,_,_,_,_,_,_,_,_,_,_,_,_,_,_,_,_,_,_,_,_,_,_,_,_,_,_,_,_,_,_,_,_,_,_,_,_,_,_,_,_,_,_,_,_,_,_,_,_,_,_,_],[]⟩) rfl rfl rfl rfl ?_
        refine EndsOps.nil ?_
        refine Ends.ret ?_
        exact ⟨rfl,rfl,hO2,by
          show Value.bool true = .bool (decide (Titled x))
          exact congrArg Value.bool (decide_eq_true ⟨fun h0 => by have h1 : (B x).length = 0 := (by rw [h0]; rfl); omega,by omega,by rw [badS_none hn (by omega)]; decide⟩).symm⟩
      · skip
        refine W.op (v := .bool false) (fr1 := ⟨[_,_,_,_,_,_,_,_,_,_,_,_,_,_,_,_,_,_,_,_,_,_,_,_,_,_,_,_,_,_,_,_,_,_,_,_,_,_,_,_,_,_,_,_,_,_,_,_,_,_,_,_,_,_,_,.bool false,_],[]⟩) rfl (p_bin (leF h17)) rfl rfl ?_
        refine W.op (v := .bool false) (fr1 := ⟨[_,_,_,_,_,_,_,_,_,_,_,_,_,_,_,_,_,_,_,_,_,_,_,_,_,_,_,_,_,_,_,_,_,_,_,_,_,_,_,_,_,_,_,_,_,_,_,_,_,_,_,_,_,_,_,_,.bool false],[]⟩) rfl rfl rfl rfl ?_
        refine W.op (v := .bool false) (fr1 := ⟨[_,_,.bool false,_,_,_,_,_,_,_,_,_,_,_,_,_,_,_,_,_,_,_,_,_,_,_,_,_,_,_,_,_,_,_,_,_,_,_,_,_,_,_,_,_,_,_,_,_,_,_,_,_,_,_,_,_,_],[]⟩) rfl rfl rfl rfl ?_
        refine EndsOps.nil ?_
        refine Ends.ret ?_
        exact ⟨rfl,rfl,hO2,by
          show Value.bool false = .bool (decide (Titled x))
          exact congrArg Value.bool (decide_eq_false fun hT => by first | omega | (refine hT.1 (List.eq_nil_of_length_eq_zero ?_); omega)).symm⟩
    · skip
      refine W.op (v := .bool false) (fr1 := ⟨[_,_,_,_,_,_,_,_,_,_,_,_,_,_,_,_,_,_,_,_,_,_,_,_,_,_,_,_,_,_,_,_,_,_,_,_,_,_,_,_,_,_,_,_,_,_,_,_,_,_,_,.bool false,_,_,_,_,_],[]⟩) rfl (p_bin (geF h16)) rfl rfl ?_
      refine W.op (v := .bool false) (fr1 := ⟨[_,_,_,_,_,_,_,_,_,_,_,_,_,_,_,_,_,_,_,_,_,_,_,_,_,_,_,_,_,_,_,_,_,_,_,_,_,_,_,_,_,_,_,_,_,_,_,_,_,_,_,_,.bool false,_,_,_,_],[]⟩) rfl rfl rfl rfl ?_
      refine W.skip (fr1 := ⟨[_,_,_,_,_,_,_,_,_,_,_,_,_,_,_,_,_,_,_,_,_,_,_,_,_,_,_,_,_,_,_,_,_,_,_,_,_,_,_,_,_,_,_,_,_,_,_,_,_,_,_,_,_,undef,_,_,_],[]⟩) rfl rfl ?_
      refine W.skip (fr1 := ⟨[_,_,_,_,_,_,_,_,_,_,_,_,_,_,_,_,_,_,_,_,_,_,_,_,_,_,_,_,_,_,_,_,_,_,_,_,_,_,_,_,_,_,_,_,_,_,_,_,_,_,_,_,_,_,undef,_,_],[]⟩) rfl rfl ?_
      refine W.skip (fr1 := ⟨[_,_,_,_,_,_,_,_,_,_,_,_,_,_,_,_,_,_,_,_,_,_,_,_,_,_,_,_,_,_,_,_,_,_,_,_,_,_,_,_,_,_,_,_,_,_,_,_,_,_,_,_,_,_,_,undef,_],[]⟩) rfl rfl ?_
      refine W.op (v := .bool false) (fr1 := ⟨[_,_,_,_,_,_,_,_,_,_,_,_,_,_,_,_,_,_,_,_,_,_,_,_,_,_,_,_,_,_,_,_,_,_,_,_,_,_,_,_,_,_,_,_,_,_,_,_,_,_,_,_,_,_,_,_,.bool false],[]⟩) rfl rfl rfl rfl ?_
      refine W.op (v := .bool false) (fr1 := ⟨[_,_,.bool false,_,_,_,_,_,_,_,_,_,_,_,_,_,_,_,_,_,_,_,_,_,_,_,_,_,_,_,_,_,_,_,_,_,_,_,_,_,_,_,_,_,_,_,_,_,_,_,_,_,_,_,_,_,_],[]⟩) rfl rfl rfl rfl ?_
      refine EndsOps.nil ?_
      refine Ends.ret ?_
      exact ⟨rfl,rfl,hO2,by
        show Value.bool false = .bool (decide (Titled x))
        exact congrArg Value.bool (decide_eq_false fun hT => by first | omega | (refine hT.1 (List.eq_nil_of_length_eq_zero ?_); omega)).symm⟩
theorem c95 (f : Fl) (Nc zc : Nat) (x : ByteArray) (s : St) (hr : Row s.t s.next Nc [.string x] 9 zc)  : EndsPure R1.T 95 [.agg ⟨[.string f.nm,.string f.tx]⟩,.pointer (some ⟨Nc,0,none⟩)] s (fun v _ _ => v = .bool (decide (B f.nm = B x))) := by
  refine EndsPure.of (rs := [3]) (fr0 := ⟨[.agg ⟨[.string f.nm,.string f.tx]⟩,.pointer (some ⟨Nc,0,none⟩),undef,undef,undef,undef,undef,undef],[]⟩) (by kernel_rfl : R1.T.fn 95 = some ⟨8,(Try.f95.body).getD .skip,[.tmp 3]⟩) rfl ?_
  have hO0 := Own.refl s
  simp only [Try.f95,Option.getD]
  refine Ends.seq ?_
  refine Ends.region ?_
  obtain ⟨N1,hN2⟩ : ∃ N,N = s.next := ⟨_,rfl⟩
  refine W.new (N := N1) (vs := [.string f.nm,.string f.tx]) (fr1 := ⟨[_,_,.pointer (some ⟨N1,0,none⟩),_,_,_,_,_],[]⟩) hO0 hN2 rfl (p_box rfl) rfl rfl ?_
  intro s3 hO4 hS5 r6 hB7
  refine W.op (v := .bool false) (fr1 := ⟨[_,_,_,.bool false,_,_,_,_],[]⟩) rfl rfl rfl rfl ?_
  refine EndsOps.nil ?_
  refine Ends.seq ?_
  refine Ends.region ?_
  refine W.op (v := .pointer (some ⟨N1,0,none⟩)) (fr1 := ⟨[_,_,_,_,.pointer (some ⟨N1,0,none⟩),_,_,_],[]⟩) rfl rfl rfl rfl ?_
  refine W.op (v := .string f.nm) (fr1 := ⟨[_,_,_,_,_,.string f.nm,_,_],[]⟩) rfl (p_load1 r6 rfl rfl rfl rfl) rfl rfl ?_
  refine W.op (v := .string x) (fr1 := ⟨[_,_,_,_,_,_,.string x,_],[]⟩) rfl (p_load1 (hr.own hO4) rfl rfl rfl rfl) rfl rfl ?_
  by_cases h8 : B f.nm = B x
  · skip
    refine W.op (v := .bool true) (fr1 := ⟨[_,_,_,_,_,_,_,.bool true],[]⟩) rfl (p_bin (seqT h8)) rfl rfl ?_
    refine W.op (v := .bool true) (fr1 := ⟨[_,_,_,.bool true,_,_,_,_],[]⟩) rfl rfl rfl rfl ?_
    refine EndsOps.nil ?_
    refine Ends.ret ?_
    exact ⟨rfl,rfl,hO4,by
      show Value.bool true = .bool (decide (B f.nm = B x))
      simp only [decide_true,decide_false, *]⟩
  · skip
    refine W.op (v := .bool false) (fr1 := ⟨[_,_,_,_,_,_,_,.bool false],[]⟩) rfl (p_bin (seqF h8)) rfl rfl ?_
    refine W.op (v := .bool false) (fr1 := ⟨[_,_,_,.bool false,_,_,_,_],[]⟩) rfl rfl rfl rfl ?_
    refine EndsOps.nil ?_
    refine Ends.ret ?_
    exact ⟨rfl,rfl,hO4,by
      show Value.bool false = .bool (decide (B f.nm = B x))
      simp only [decide_true,decide_false, *]⟩
theorem c94 (al : Option Addr) (l : List Fl) (cl Nl ol : Nat) (vl : List Value) (yl zl : Nat) (Nc zc : Nat) (x : ByteArray) (s : St) (Hl : Sl Fl.cells 2 s.t s.next al l Nl ol vl yl zl) (hr : Row s.t s.next Nc [.string x] 9 zc)  : EndsPure R1.T 94 [.slice al l.length cl,.func (.func 95) ⟨[]⟩ ⟨[.pointer (some ⟨Nc,0,none⟩)]⟩] s (fun v _ _ => v = .int .i64 (placeS l x)) := by
  refine EndsPure.of (rs := [4]) (fr0 := ⟨[.slice al l.length cl,.func (.func 95) ⟨[]⟩ ⟨[.pointer (some ⟨Nc,0,none⟩)]⟩,undef,undef,undef,undef,undef,undef,undef,undef,undef,undef,undef,undef,undef,undef,undef,undef,undef],[]⟩) (by kernel_rfl : R1.T.fn 94 = some ⟨19,(Try.f94.body).getD .skip,[.tmp 4]⟩) rfl ?_
  have hO0 := Own.refl s
  have Ml := Hl.small
  simp only [Try.f94,Option.getD]
  refine Ends.seq ?_
  refine Ends.region ?_
  refine W.op (v := .int .i64 0) (fr1 := ⟨[_,_,_,_,.int .i64 0,_,_,_,_,_,_,_,_,_,_,_,_,_,_],[]⟩) rfl rfl rfl rfl ?_
  refine EndsOps.nil ?_
  refine Ends.seq ?_
  refine Ends.seq ?_
  refine Ends.region ?_
  refine W.op (v := .slice al l.length cl) (fr1 := ⟨[_,_,_,_,_,_,.slice al l.length cl,_,_,_,_,_,_,_,_,_,_,_,_],[]⟩) rfl rfl rfl rfl ?_
  refine W.op (v := .int .i64 ((l.length : Nat) : Int)) (fr1 := ⟨[_,_,_,_,_,_,_,.int .i64 ((l.length : Nat) : Int),_,_,_,_,_,_,_,_,_,_,_],[]⟩) rfl rfl rfl rfl ?_
  refine W.op (v := .int .i64 0) (fr1 := ⟨[_,_,_,_,_,_,_,_,.int .i64 0,_,_,_,_,_,_,_,_,_,_],[]⟩) rfl rfl rfl rfl ?_
  refine EndsOps.nil ?_
  refine W.block ?_
  refine Ends.loopInv (fun d fr s1 => ∃ (i : Nat) (j4 j5 j9 j10 j11 j12 j13 j14 j15 j16 j17 j18 : Value),fr = ⟨[.slice al l.length cl,.func (.func 95) ⟨[]⟩ ⟨[.pointer (some ⟨Nc,0,none⟩)]⟩,undef,undef,j4,j5,.slice al l.length cl,.int .i64 ((l.length : Nat) : Int),.int .i64 ((i : Nat) : Int),j9,j10,j11,j12,j13,j14,j15,j16,j17,j18],[]⟩ ∧ Own s s1 ∧ d = l.length - i ∧ (i ≤ l.length) ∧ (NoB (fun f => B f.nm = B x) l i)) ?_ _ _ _ ⟨0,_,_,_,_,_,_,_,_,_,_,_,_,rfl,hO0,rfl,Nat.zero_le _,NoB.zero⟩
  rintro d _ s1 ⟨i,j4,j5,j9,j10,j11,j12,j13,j14,j15,j16,j17,j18,rfl,hO2,hd3,hi,hn⟩
  refine Ends.seq ?_
  refine Ends.region ?_
  by_cases h4 : ((i : Nat) : Int) < ((l.length : Nat) : Int)
  · skip
    refine W.op (v := .bool true) (fr1 := ⟨[_,_,_,_,_,_,_,_,_,.bool true,_,_,_,_,_,_,_,_,_],[]⟩) rfl (p_bin (ltT h4)) rfl rfl ?_
    refine EndsOps.nil ?_
    refine Ends.seq ?_
    refine Ends.condT rfl ?_
    refine Ends.skip ?_
    refine Ends.seq ?_
    refine W.block ?_
    refine Ends.seq ?_
    refine Ends.region ?_
    refine W.op (v := .int .i64 ((i : Nat) : Int)) (fr1 := ⟨[_,_,_,_,_,_,_,_,_,_,.int .i64 ((i : Nat) : Int),_,_,_,_,_,_,_,_],[]⟩) rfl rfl rfl rfl ?_
    refine W.op (v := .int .i64 ((i : Nat) : Int)) (fr1 := ⟨[_,_,_,_,_,.int .i64 ((i : Nat) : Int),_,_,_,_,_,_,_,_,_,_,_,_,_],[]⟩) rfl rfl rfl rfl ?_
    refine EndsOps.nil ?_
    refine Ends.seq ?_
    refine Ends.region ?_
    refine W.op (v := .func (.func 95) ⟨[]⟩ ⟨[.pointer (some ⟨Nc,0,none⟩)]⟩) (fr1 := ⟨[_,_,_,_,_,_,_,_,_,_,_,.func (.func 95) ⟨[]⟩ ⟨[.pointer (some ⟨Nc,0,none⟩)]⟩,_,_,_,_,_,_,_],[]⟩) rfl rfl rfl rfl ?_
    refine W.op (v := .slice al l.length cl) (fr1 := ⟨[_,_,_,_,_,_,_,_,_,_,_,_,.slice al l.length cl,_,_,_,_,_,_],[]⟩) rfl rfl rfl rfl ?_
    refine W.op (v := .int .i64 ((i : Nat) : Int)) (fr1 := ⟨[_,_,_,_,_,_,_,_,_,_,_,_,_,.int .i64 ((i : Nat) : Int),_,_,_,_,_],[]⟩) rfl rfl rfl rfl ?_
    obtain ⟨e5,he6⟩ := ex_at (l := l) (i := i) (by omega)
    refine W.op (v := .pointer (some ⟨Nl,ol + i * 2,none⟩)) (fr1 := ⟨[_,_,_,_,_,_,_,_,_,_,_,_,_,_,.pointer (some ⟨Nl,ol + i * 2,none⟩),_,_,_,_],[]⟩) rfl (p_ix (Sl.ix Hl rfl rfl he6 _)) rfl rfl ?_
    refine W.op (v := .agg ⟨[.string e5.nm,.string e5.tx]⟩) (fr1 := ⟨[_,_,_,_,_,_,_,_,_,_,_,_,_,_,_,.agg ⟨[.string e5.nm,.string e5.tx]⟩,_,_,_],[]⟩) rfl (p_loadA (Sl.row' (Hl.own hO2) he6) rfl rfl rfl rfl ((Hl.own hO2).get _ _ he6)) rfl rfl ?_
    by_cases h7 : B e5.nm = B x
    · skip
      refine W.callC (ar := [.agg ⟨[.string e5.nm,.string e5.tx]⟩,.pointer (some ⟨Nc,0,none⟩)]) (X := .bool true) (fr1 := ⟨[_,_,_,_,_,_,_,_,_,_,_,_,_,_,_,_,.bool true,_,_],[]⟩) hO2 rfl rfl rfl rfl ((c95 e5 Nc zc x _ (hr.own hO2)).mono fun v _ _ h => h.trans (congrArg Value.bool (decide_eq_true h7))) rfl ?_
      intro s8 hO9 hS10
      refine EndsOps.nil ?_
      refine Ends.condT rfl ?_
      refine Ends.seq ?_
      refine Ends.region ?_
      refine W.op (v := .int .i64 ((i : Nat) : Int)) (fr1 := ⟨[_,_,_,_,_,_,_,_,_,_,_,_,_,_,_,_,_,.int .i64 ((i : Nat) : Int),_],[]⟩) rfl rfl rfl rfl ?_
      refine W.op (v := .int .i64 ((i : Nat) : Int)) (fr1 := ⟨[_,_,_,_,.int .i64 ((i : Nat) : Int),_,_,_,_,_,_,_,_,_,_,_,_,_,_],[]⟩) rfl rfl rfl rfl ?_
      refine EndsOps.nil ?_
      refine Ends.ret ?_
      exact ⟨rfl,rfl,hO9,by
        show Value.int .i64 ((i : Nat) : Int) = Value.int .i64 (placeS l x)
        rw [place_at hn he6 h7]⟩
    · skip
      refine W.callC (ar := [.agg ⟨[.string e5.nm,.string e5.tx]⟩,.pointer (some ⟨Nc,0,none⟩)]) (X := .bool false) (fr1 := ⟨[_,_,_,_,_,_,_,_,_,_,_,_,_,_,_,_,.bool false,_,_],[]⟩) hO2 rfl rfl rfl rfl ((c95 e5 Nc zc x _ (hr.own hO2)).mono fun v _ _ h => h.trans (congrArg Value.bool (decide_eq_false h7))) rfl ?_
      intro s11 hO12 hS13
      refine EndsOps.nil ?_
      refine Ends.condF rfl ?_
      refine Ends.skip ?_
      refine Ends.region ?_
      refine W.op (v := .int .i64 ((i + 1 : Nat) : Int)) (fr1 := ⟨[_,_,_,_,_,_,_,_,_,_,_,_,_,_,_,_,_,_,.int .i64 ((i + 1 : Nat) : Int)],[]⟩) rfl (p_bin (addI (by omega) (by omega) (by omega))) rfl rfl ?_
      refine W.op (v := .int .i64 ((i + 1 : Nat) : Int)) (fr1 := ⟨[_,_,_,_,_,_,_,_,.int .i64 ((i + 1 : Nat) : Int),_,_,_,_,_,_,_,_,_,_],[]⟩) rfl rfl rfl rfl ?_
      refine EndsOps.nil ?_
      exact ⟨_,(by omega),i + 1,_,_,_,_,_,_,_,_,_,_,_,_,rfl,hO12,rfl,by omega,NoB.step hn he6 h7⟩
  · skip
    refine W.op (v := .bool false) (fr1 := ⟨[_,_,_,_,_,_,_,_,_,.bool false,_,_,_,_,_,_,_,_,_],[]⟩) rfl (p_bin (ltF h4)) rfl rfl ?_
    refine EndsOps.nil ?_
    refine Ends.seq ?_
    refine Ends.condF rfl ?_
    refine Ends.exit ?_
    refine W.outT rfl ?_
    refine Ends.seq ?_
    refine Ends.region ?_
    refine W.op (v := .int .i64 (-1)) (fr1 := ⟨[_,_,_,_,.int .i64 (-1),_,_,_,_,_,_,_,_,_,_,_,_,_,_],[]⟩) rfl rfl rfl rfl ?_
    refine EndsOps.nil ?_
    refine Ends.ret ?_
    exact ⟨rfl,rfl,hO2,by
      show Value.int .i64 (-1) = Value.int .i64 (placeS l x)
      rw [place_none hn (by omega)]⟩
end Go.Ev.R1

