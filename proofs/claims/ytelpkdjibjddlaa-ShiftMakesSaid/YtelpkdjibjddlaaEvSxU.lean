/-
  SX: the first seat's types.
-/
import Derived.Test.YtelpkdjibjddlaaEvSxU0
import Derived.Test.YtelpkdjibjddlaaEvR1
set_option linter.unusedSimpArgs false
set_option linter.unusedVariables false
namespace Go.Sx
open Go Go.Ev Go.RowKit Go.Proofs
set_option maxRecDepth 100000
def tab1 : List (Nat × TI) := [
  (3,⟨.int .i64,1,false,8,5,[.i .i64],true,false⟩),
  (22,⟨.slice 97,1,false,24,6,[.sl],false,false⟩),
  (9,⟨.str,1,false,16,7,[.s],false,false⟩),
  (97,⟨.struct [(0,1,3),(1,1,3),(2,1,9)],3,true,32,0,[.i .i64,.i .i64,.s],false,true⟩),
  (57,⟨.slice 68,1,false,24,99,[.sl],false,false⟩),
  (59,⟨.slice 119,1,false,24,99,[.sl],false,false⟩),
  (119,⟨.struct [(0,1,9),(1,1,22)],2,true,40,4,[.s,.sl],false,false⟩),
  (68,⟨.struct [(0,1,9),(1,1,9)],2,true,32,1,[.s,.s],false,true⟩),
  (81,⟨.struct [(0,1,3),(1,1,3)],2,true,16,3,[.i .i64,.i .i64],false,true⟩),
  (26,⟨.iface,1,false,16,99,[.n],false,false⟩),
  (4,⟨.bool,1,false,1,99,[.b],false,false⟩),
  (102,⟨.slice 3,1,false,24,99,[.sl],false,false⟩),
  (37,⟨.int .i64,1,false,8,99,[.i .i64],true,false⟩),
  (101,⟨.struct [(0,1,3),(1,1,3),(2,1,3)],3,true,24,2,[.i .i64,.i .i64,.i .i64],false,false⟩),
  (98,⟨.slice 101,1,false,24,99,[.sl],false,false⟩),
  (127,⟨.struct [(0,1,22),(1,1,31)],2,true,48,99,[.sl,.sl],false,false⟩),
  (129,⟨.struct [(0,2,127),(2,2,127),(4,1,3),(5,1,22)],6,true,128,99,[.sl,.sl,.sl,.sl,.i .i64,.sl],false,false⟩),
  (125,⟨.ptr 129,1,false,8,99,[.p],false,false⟩),
  (39,⟨.arr 2 3,2,true,16,3,[.i .i64,.i .i64],false,false⟩),
  (5,⟨.int .u8,1,false,1,8,[.i .u8],true,false⟩),
  (132,⟨.func,1,false,8,99,[.f],false,false⟩),
  (31,⟨.slice 39,1,false,24,99,[.sl],false,false⟩),
  (117,⟨.func,1,false,8,99,[.f],false,false⟩),
  (120,⟨.func,1,false,8,99,[.f],false,false⟩),
  (139,⟨.func,1,false,8,99,[.f],false,false⟩)]
def S1 : Sys U1 := mkSys tab1 k1 cells1 of1
theorem tab1_ok : okTab R1.T tab1 = true := by decide +kernel
theorem sys1 : SysOk R1.T S1 ∧ ∀ e,S1.size e < END := mkSys_ok tab1_ok (fun c x => ⟨(cells1_ok c x).1,fun v hv => ((cells1_ok c x).2 v hv).1⟩) (fun c x v hv => ((cells1_ok c x).2 v hv).2) of1_ok
end Go.Sx

