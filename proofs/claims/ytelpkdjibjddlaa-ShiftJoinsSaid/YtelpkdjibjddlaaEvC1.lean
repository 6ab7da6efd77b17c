/-
  EV: contracts of the first seat's functions.
-/
import Derived.Test.YtelpkdjibjddlaaEvDrawn
import Derived.Test.YtelpkdjibjddlaaEvR1
set_option linter.unusedSimpArgs false
set_option linter.unusedVariables false
namespace Go.Ev.R1
open Go Go.Ev Go.Proofs
set_option maxRecDepth 10000
theorem c22n (s : St) : EndsPure R1.T 22 [.nilIface] s (fun v _ _ => v = .int .i64 0) := by
  refine EndsPure.of (rs := [2]) (fr0 := ⟨[.nilIface,undef,undef,undef,undef,undef,undef,undef,undef,undef,undef,undef,undef,undef,undef,undef,undef,undef],[]⟩) (by kernel_rfl : R1.T.fn 22 = some ⟨18,(Try.f22.body).getD .skip,[.tmp 2]⟩) rfl ?_
  have hO0 := Own.refl s
  simp only [Try.f22,Option.getD]
  refine Ends.seq ?_
  refine Ends.region ?_
  refine W.op (v := .int .i64 0) (fr1 := ⟨[_,_,.int .i64 0,_,_,_,_,_,_,_,_,_,_,_,_,_,_,_],[]⟩) rfl rfl rfl rfl ?_
  refine EndsOps.nil ?_
  refine Ends.seq ?_
  refine Ends.seq ?_
  refine Ends.region ?_
  refine W.op (v := .nilIface) (fr1 := ⟨[_,_,_,_,_,.nilIface,_,_,_,_,_,_,_,_,_,_,_,_],[]⟩) rfl rfl rfl rfl ?_
  refine W.op (v := .bool true) (fr1 := ⟨[_,_,_,_,_,_,.bool true,_,_,_,_,_,_,_,_,_,_,_],[]⟩) rfl rfl rfl rfl ?_
  refine EndsOps.nil ?_
  refine Ends.condT rfl ?_
  refine Ends.seq ?_
  refine Ends.region ?_
  refine W.op (v := .int .i64 0) (fr1 := ⟨[_,_,.int .i64 0,_,_,_,_,_,_,_,_,_,_,_,_,_,_,_],[]⟩) rfl rfl rfl rfl ?_
  refine EndsOps.nil ?_
  refine Ends.ret ?_
  exact ⟨rfl,rfl,hO0,by
    show Value.int .i64 0 = .int .i64 0
    rfl⟩
theorem c22 (c : Int) (h0 : ¬ c = 0) (s : St) : EndsPure R1.T 22 [.iface 37 (.int .i64 c)] s (fun v _ _ => v = .int .i64 c) := by
  refine EndsPure.of (rs := [2]) (fr0 := ⟨[.iface 37 (.int .i64 c),undef,undef,undef,undef,undef,undef,undef,undef,undef,undef,undef,undef,undef,undef,undef,undef,undef],[]⟩) (by kernel_rfl : R1.T.fn 22 = some ⟨18,(Try.f22.body).getD .skip,[.tmp 2]⟩) rfl ?_
  have hO0 := Own.refl s
  simp only [Try.f22,Option.getD]
  refine Ends.seq ?_
  refine Ends.region ?_
  refine W.op (v := .int .i64 0) (fr1 := ⟨[_,_,.int .i64 0,_,_,_,_,_,_,_,_,_,_,_,_,_,_,_],[]⟩) rfl rfl rfl rfl ?_
  refine EndsOps.nil ?_
  refine Ends.seq ?_
  refine Ends.seq ?_
  refine Ends.region ?_
  refine W.op (v := .iface 37 (.int .i64 c)) (fr1 := ⟨[_,_,_,_,_,.iface 37 (.int .i64 c),_,_,_,_,_,_,_,_,_,_,_,_],[]⟩) rfl rfl rfl rfl ?_
  refine W.op (v := .bool false) (fr1 := ⟨[_,_,_,_,_,_,.bool false,_,_,_,_,_,_,_,_,_,_,_],[]⟩) rfl rfl rfl rfl ?_
  refine EndsOps.nil ?_
  refine Ends.condF rfl ?_
  refine Ends.skip ?_
  refine Ends.seq ?_
  refine Ends.seq ?_
  refine Ends.region ?_
  refine W.op (v := .iface 37 (.int .i64 c)) (fr1 := ⟨[_,_,_,_,_,_,_,_,.iface 37 (.int .i64 c),_,_,_,_,_,_,_,_,_],[]⟩) rfl rfl rfl rfl ?_
  refine W.op (v := .tuple ⟨[.int .i64 c,.bool true]⟩) (fr1 := ⟨[_,_,_,_,_,_,_,_,_,.tuple ⟨[.int .i64 c,.bool true]⟩,_,_,_,_,_,_,_,_],[]⟩) rfl rfl rfl rfl ?_
  refine W.op (v := .tuple ⟨[.int .i64 c,.bool true]⟩) (fr1 := ⟨[_,_,_,_,_,_,_,.tuple ⟨[.int .i64 c,.bool true]⟩,_,_,_,_,_,_,_,_,_,_],[]⟩) rfl rfl rfl rfl ?_
  refine W.op (v := .int .i64 c) (fr1 := ⟨[_,_,_,_,_,_,_,_,_,_,.int .i64 c,_,_,_,_,_,_,_],[]⟩) rfl rfl rfl rfl ?_
  refine W.op (v := .bool true) (fr1 := ⟨[_,_,_,_,_,_,_,_,_,_,_,.bool true,_,_,_,_,_,_],[]⟩) rfl rfl rfl rfl ?_
  refine W.op (v := .int .i64 c) (fr1 := ⟨[_,_,_,.int .i64 c,_,_,_,_,_,_,_,_,_,_,_,_,_,_],[]⟩) rfl rfl rfl rfl ?_
  refine W.op (v := .bool true) (fr1 := ⟨[_,_,_,_,.bool true,_,_,_,_,_,_,_,_,_,_,_,_,_],[]⟩) rfl rfl rfl rfl ?_
  refine EndsOps.nil ?_
  refine Ends.seq ?_
  refine Ends.region ?_
  refine W.op (v := .bool true) (fr1 := ⟨[_,_,_,_,_,_,_,_,_,_,_,_,.bool true,_,_,_,_,_],[]⟩) rfl rfl rfl rfl ?_
  refine W.op (v := .bool true) (fr1 := ⟨[_,_,_,_,_,_,_,_,_,_,_,_,_,.bool true,_,_,_,_],[]⟩) rfl rfl rfl rfl ?_
  refine W.op (v := .int .i64 c) (fr1 := ⟨[_,_,_,_,_,_,_,_,_,_,_,_,_,_,.int .i64 c,_,_,_],[]⟩) rfl rfl rfl rfl ?_
  refine W.op (v := .bool true) (fr1 := ⟨[_,_,_,_,_,_,_,_,_,_,_,_,_,_,_,.bool true,_,_],[]⟩) rfl (p_bin (neT h0)) rfl rfl ?_
  refine W.op (v := .bool true) (fr1 := ⟨[_,_,_,_,_,_,_,_,_,_,_,_,_,_,_,_,.bool true,_],[]⟩) rfl rfl rfl rfl ?_
  refine EndsOps.nil ?_
  refine Ends.condT rfl ?_
  refine Ends.seq ?_
  refine Ends.region ?_
  refine W.op (v := .int .i64 c) (fr1 := ⟨[_,_,_,_,_,_,_,_,_,_,_,_,_,_,_,_,_,.int .i64 c],[]⟩) rfl rfl rfl rfl ?_
  refine W.op (v := .int .i64 c) (fr1 := ⟨[_,_,.int .i64 c,_,_,_,_,_,_,_,_,_,_,_,_,_,_,_],[]⟩) rfl rfl rfl rfl ?_
  refine EndsOps.nil ?_
  refine Ends.ret ?_
  exact ⟨rfl,rfl,hO0,by
    show Value.int .i64 c = .int .i64 c
    rfl⟩
end Go.Ev.R1

