/-
  No cell of these rows narrows 'for every input' (looked for: loops, veiled, ifaces, maps, wideKeys, modest, calm, conditions, laid).
  DERIVED. THE GIVEN ROWS OF THIS SEAT. 12 by the template 'for every input the law returns true; each argument reads behind the call as it read before'; 0 by the template 'total and deterministic' (their statements: YtelpkdjibjddlaaTotals.lean).
  GIVEN WITH THE SEED: the statements are not yours to turn. If you find one false, say at which input.
  Laid BY PROGRAM, IN A SANDBOX (cutbox-rows.mjs): the forced cells as the released guide's own fill.sh prints them over the translation ef2f55e58917e92d… (all of the seat's roots in one cut). By AI agents, Wed Nov 11 2026. No macro, syntax, notation, axiom, sorry.
-/
import Derived.Test.YtelpkdjibjddlaaChecked
import GoSem.Claim
import GoSem.ClaimJoined
import GoSem.ClaimMapViews
import Derived.JoinedTies
import Derived.KernelRfl
namespace Go.Proofs.Ytelpkdjibjddlaa
/- THE CELL 'sum', in the pinned program and in every row, IS THE sha256 OF THE DUMP (.gsa) THAT YtelpkdjibjddlaaProg.lean LOADS. Nothing in Lean hashes anything: it is a label: what it is worth is what the hold of that sum in a sandbox is worth. -/
noncomputable def Try.pinned : Pinned := { name := "ytelpkdjibjddlaa", sum := "ef2f55e58917e92d141cd087735cea19ff610bc27784b17e199f62106fad23df", checked := Try.checked }
namespace Rows
def none {H : Type} : Left H := { results := [], args := [] }

/-- 'namesakelaw03.ShiftGoes': WHATEVER THE INPUT: true; the input reads as it did. -/
def shiftGoesSpec : ChangeSpec := { name := "shiftGoes", fn := fun _ => fun
  | [d1, d2, d3] => { results := [.lit (.bool true)], args := [d1, d2, d3] }
  | _ => none }
def shiftGoesRow : OpenClaim := { program := "ytelpkdjibjddlaa", sum := "ef2f55e58917e92d141cd087735cea19ff610bc27784b17e199f62106fad23df", func := "namesake/namesakelaw03.ShiftGoes", spec := "shiftGoes", apart := false }
def ShiftGoesSaid : Prop := shiftGoesRow.holds Try.pinned (OpenSpec.ofChange shiftGoesSpec)

/-- ITS FALSE NEIGHBOUR: 'it returns false'. Refute it at one input. -/
def shiftGoesWrong : ChangeSpec := { name := "shiftGoes", fn := fun _ => fun
  | [d1, d2, d3] => { results := [.lit (.bool false)], args := [d1, d2, d3] }
  | _ => none }
def ShiftGoesWrongFalsely : Prop := shiftGoesRow.holds Try.pinned (OpenSpec.ofChange shiftGoesWrong)

/-- 'namesakelaw03.ShiftKeeps': WHATEVER THE INPUT: true; the input reads as it did. -/
def shiftKeepsSpec : ChangeSpec := { name := "shiftKeeps", fn := fun _ => fun
  | [d1, d2, d3] => { results := [.lit (.bool true)], args := [d1, d2, d3] }
  | _ => none }
def shiftKeepsRow : OpenClaim := { program := "ytelpkdjibjddlaa", sum := "ef2f55e58917e92d141cd087735cea19ff610bc27784b17e199f62106fad23df", func := "namesake/namesakelaw03.ShiftKeeps", spec := "shiftKeeps", unfollowed := true, recurses := true, apart := false }
def ShiftKeepsSaid : Prop := shiftKeepsRow.holds Try.pinned (OpenSpec.ofChange shiftKeepsSpec)

/-- ITS FALSE NEIGHBOUR: 'it returns false'. Refute it at one input. -/
def shiftKeepsWrong : ChangeSpec := { name := "shiftKeeps", fn := fun _ => fun
  | [d1, d2, d3] => { results := [.lit (.bool false)], args := [d1, d2, d3] }
  | _ => none }
def ShiftKeepsWrongFalsely : Prop := shiftKeepsRow.holds Try.pinned (OpenSpec.ofChange shiftKeepsWrong)

/-- 'namesakelaw02.EditApplies': WHATEVER THE INPUT: true; the input reads as it did. -/
def editAppliesSpec : ChangeSpec := { name := "editApplies", fn := fun _ => fun
  | [d1, d2] => { results := [.lit (.bool true)], args := [d1, d2] }
  | _ => none }
def editAppliesRow : OpenClaim := { program := "ytelpkdjibjddlaa", sum := "ef2f55e58917e92d141cd087735cea19ff610bc27784b17e199f62106fad23df", func := "namesake/namesakelaw02.EditApplies", spec := "editApplies", inPlace := ["internal/abi.NoEscape"], apart := false }
def EditAppliesSaid : Prop := editAppliesRow.holds Try.pinned (OpenSpec.ofChange editAppliesSpec)

/-- ITS FALSE NEIGHBOUR: 'it returns false'. Refute it at one input. -/
def editAppliesWrong : ChangeSpec := { name := "editApplies", fn := fun _ => fun
  | [d1, d2] => { results := [.lit (.bool false)], args := [d1, d2] }
  | _ => none }
def EditAppliesWrongFalsely : Prop := editAppliesRow.holds Try.pinned (OpenSpec.ofChange editAppliesWrong)

/-- 'namesakelaw02.EditRight': WHATEVER THE INPUT: true; the input reads as it did. -/
def editRightSpec : ChangeSpec := { name := "editRight", fn := fun _ => fun
  | [d1, d2] => { results := [.lit (.bool true)], args := [d1, d2] }
  | _ => none }
def editRightRow : OpenClaim := { program := "ytelpkdjibjddlaa", sum := "ef2f55e58917e92d141cd087735cea19ff610bc27784b17e199f62106fad23df", func := "namesake/namesakelaw02.EditRight", spec := "editRight", inPlace := ["internal/abi.NoEscape"], unfollowed := true, recurses := true, apart := false }
def EditRightSaid : Prop := editRightRow.holds Try.pinned (OpenSpec.ofChange editRightSpec)

/-- ITS FALSE NEIGHBOUR: 'it returns false'. Refute it at one input. -/
def editRightWrong : ChangeSpec := { name := "editRight", fn := fun _ => fun
  | [d1, d2] => { results := [.lit (.bool false)], args := [d1, d2] }
  | _ => none }
def EditRightWrongFalsely : Prop := editRightRow.holds Try.pinned (OpenSpec.ofChange editRightWrong)

/-- 'namesakelaw04.FilesDiff': WHATEVER THE INPUT: true; the input reads as it did. -/
def filesDiffSpec : ChangeSpec := { name := "filesDiff", fn := fun _ => fun
  | [d1, d2] => { results := [.lit (.bool true)], args := [d1, d2] }
  | _ => none }
def filesDiffRow : OpenClaim := { program := "ytelpkdjibjddlaa", sum := "ef2f55e58917e92d141cd087735cea19ff610bc27784b17e199f62106fad23df", func := "namesake/namesakelaw04.FilesDiff", spec := "filesDiff", unfollowed := true, recurses := true, apart := false }
def FilesDiffSaid : Prop := filesDiffRow.holds Try.pinned (OpenSpec.ofChange filesDiffSpec)

/-- ITS FALSE NEIGHBOUR: 'it returns false'. Refute it at one input. -/
def filesDiffWrong : ChangeSpec := { name := "filesDiff", fn := fun _ => fun
  | [d1, d2] => { results := [.lit (.bool false)], args := [d1, d2] }
  | _ => none }
def FilesDiffWrongFalsely : Prop := filesDiffRow.holds Try.pinned (OpenSpec.ofChange filesDiffWrong)

/-- 'namesakelaw04.FilesRight': WHATEVER THE INPUT: true; the input reads as it did. -/
def filesRightSpec : ChangeSpec := { name := "filesRight", fn := fun _ => fun
  | [d1, d2] => { results := [.lit (.bool true)], args := [d1, d2] }
  | _ => none }
def filesRightRow : OpenClaim := { program := "ytelpkdjibjddlaa", sum := "ef2f55e58917e92d141cd087735cea19ff610bc27784b17e199f62106fad23df", func := "namesake/namesakelaw04.FilesRight", spec := "filesRight", unfollowed := true, recurses := true, apart := false }
def FilesRightSaid : Prop := filesRightRow.holds Try.pinned (OpenSpec.ofChange filesRightSpec)

/-- ITS FALSE NEIGHBOUR: 'it returns false'. Refute it at one input. -/
def filesRightWrong : ChangeSpec := { name := "filesRight", fn := fun _ => fun
  | [d1, d2] => { results := [.lit (.bool false)], args := [d1, d2] }
  | _ => none }
def FilesRightWrongFalsely : Prop := filesRightRow.holds Try.pinned (OpenSpec.ofChange filesRightWrong)

/-- 'namesakelaw02.EditMerges': WHATEVER THE INPUT: true; the input reads as it did. -/
def editMergesSpec : ChangeSpec := { name := "editMerges", fn := fun _ => fun
  | [d1, d2] => { results := [.lit (.bool true)], args := [d1, d2] }
  | _ => none }
def editMergesRow : OpenClaim := { program := "ytelpkdjibjddlaa", sum := "ef2f55e58917e92d141cd087735cea19ff610bc27784b17e199f62106fad23df", func := "namesake/namesakelaw02.EditMerges", spec := "editMerges", inPlace := ["internal/abi.NoEscape"], unfollowed := true, recurses := true, apart := false }
def EditMergesSaid : Prop := editMergesRow.holds Try.pinned (OpenSpec.ofChange editMergesSpec)

/-- ITS FALSE NEIGHBOUR: 'it returns false'. Refute it at one input. -/
def editMergesWrong : ChangeSpec := { name := "editMerges", fn := fun _ => fun
  | [d1, d2] => { results := [.lit (.bool false)], args := [d1, d2] }
  | _ => none }
def EditMergesWrongFalsely : Prop := editMergesRow.holds Try.pinned (OpenSpec.ofChange editMergesWrong)

/-- 'namesakelaw03.ShiftJoins': WHATEVER THE INPUT: true; the input reads as it did. -/
def shiftJoinsSpec : ChangeSpec := { name := "shiftJoins", fn := fun _ => fun
  | [d1, d2, d3] => { results := [.lit (.bool true)], args := [d1, d2, d3] }
  | _ => none }
def shiftJoinsRow : OpenClaim := { program := "ytelpkdjibjddlaa", sum := "ef2f55e58917e92d141cd087735cea19ff610bc27784b17e199f62106fad23df", func := "namesake/namesakelaw03.ShiftJoins", spec := "shiftJoins", unfollowed := true, recurses := true, apart := false }
def ShiftJoinsSaid : Prop := shiftJoinsRow.holds Try.pinned (OpenSpec.ofChange shiftJoinsSpec)

/-- ITS FALSE NEIGHBOUR: 'it returns false'. Refute it at one input. -/
def shiftJoinsWrong : ChangeSpec := { name := "shiftJoins", fn := fun _ => fun
  | [d1, d2, d3] => { results := [.lit (.bool false)], args := [d1, d2, d3] }
  | _ => none }
def ShiftJoinsWrongFalsely : Prop := shiftJoinsRow.holds Try.pinned (OpenSpec.ofChange shiftJoinsWrong)

/-- 'namesakelaw03.ShiftMakes': WHATEVER THE INPUT: true; the input reads as it did. -/
def shiftMakesSpec : ChangeSpec := { name := "shiftMakes", fn := fun _ => fun
  | [d1, d2, d3] => { results := [.lit (.bool true)], args := [d1, d2, d3] }
  | _ => none }
def shiftMakesRow : OpenClaim := { program := "ytelpkdjibjddlaa", sum := "ef2f55e58917e92d141cd087735cea19ff610bc27784b17e199f62106fad23df", func := "namesake/namesakelaw03.ShiftMakes", spec := "shiftMakes", inPlace := ["internal/abi.NoEscape"], unfollowed := true, recurses := true, apart := false }
def ShiftMakesSaid : Prop := shiftMakesRow.holds Try.pinned (OpenSpec.ofChange shiftMakesSpec)

/-- ITS FALSE NEIGHBOUR: 'it returns false'. Refute it at one input. -/
def shiftMakesWrong : ChangeSpec := { name := "shiftMakes", fn := fun _ => fun
  | [d1, d2, d3] => { results := [.lit (.bool false)], args := [d1, d2, d3] }
  | _ => none }
def ShiftMakesWrongFalsely : Prop := shiftMakesRow.holds Try.pinned (OpenSpec.ofChange shiftMakesWrong)

/-- 'namesakelaw04.FilesGoes': WHATEVER THE INPUT: true; the input reads as it did. -/
def filesGoesSpec : ChangeSpec := { name := "filesGoes", fn := fun _ => fun
  | [d1, d2, d3] => { results := [.lit (.bool true)], args := [d1, d2, d3] }
  | _ => none }
def filesGoesRow : OpenClaim := { program := "ytelpkdjibjddlaa", sum := "ef2f55e58917e92d141cd087735cea19ff610bc27784b17e199f62106fad23df", func := "namesake/namesakelaw04.FilesGoes", spec := "filesGoes", inPlace := ["internal/abi.NoEscape"], unfollowed := true, recurses := true, apart := false }
def FilesGoesSaid : Prop := filesGoesRow.holds Try.pinned (OpenSpec.ofChange filesGoesSpec)

/-- ITS FALSE NEIGHBOUR: 'it returns false'. Refute it at one input. -/
def filesGoesWrong : ChangeSpec := { name := "filesGoes", fn := fun _ => fun
  | [d1, d2, d3] => { results := [.lit (.bool false)], args := [d1, d2, d3] }
  | _ => none }
def FilesGoesWrongFalsely : Prop := filesGoesRow.holds Try.pinned (OpenSpec.ofChange filesGoesWrong)

/-- 'namesakelaw04.FilesApply': WHATEVER THE INPUT: true; the input reads as it did. -/
def filesApplySpec : ChangeSpec := { name := "filesApply", fn := fun _ => fun
  | [d1, d2] => { results := [.lit (.bool true)], args := [d1, d2] }
  | _ => none }
def filesApplyRow : OpenClaim := { program := "ytelpkdjibjddlaa", sum := "ef2f55e58917e92d141cd087735cea19ff610bc27784b17e199f62106fad23df", func := "namesake/namesakelaw04.FilesApply", spec := "filesApply", inPlace := ["internal/abi.NoEscape"], unfollowed := true, recurses := true, apart := false }
def FilesApplySaid : Prop := filesApplyRow.holds Try.pinned (OpenSpec.ofChange filesApplySpec)

/-- ITS FALSE NEIGHBOUR: 'it returns false'. Refute it at one input. -/
def filesApplyWrong : ChangeSpec := { name := "filesApply", fn := fun _ => fun
  | [d1, d2] => { results := [.lit (.bool false)], args := [d1, d2] }
  | _ => none }
def FilesApplyWrongFalsely : Prop := filesApplyRow.holds Try.pinned (OpenSpec.ofChange filesApplyWrong)

/-- 'namesakelaw04.FilesBack': WHATEVER THE INPUT: true; the input reads as it did. -/
def filesBackSpec : ChangeSpec := { name := "filesBack", fn := fun _ => fun
  | [d1, d2] => { results := [.lit (.bool true)], args := [d1, d2] }
  | _ => none }
def filesBackRow : OpenClaim := { program := "ytelpkdjibjddlaa", sum := "ef2f55e58917e92d141cd087735cea19ff610bc27784b17e199f62106fad23df", func := "namesake/namesakelaw04.FilesBack", spec := "filesBack", inPlace := ["internal/abi.NoEscape"], unfollowed := true, recurses := true, apart := false }
def FilesBackSaid : Prop := filesBackRow.holds Try.pinned (OpenSpec.ofChange filesBackSpec)

/-- ITS FALSE NEIGHBOUR: 'it returns false'. Refute it at one input. -/
def filesBackWrong : ChangeSpec := { name := "filesBack", fn := fun _ => fun
  | [d1, d2] => { results := [.lit (.bool false)], args := [d1, d2] }
  | _ => none }
def FilesBackWrongFalsely : Prop := filesBackRow.holds Try.pinned (OpenSpec.ofChange filesBackWrong)

/- THE SECOND FORM. 'bulk': how many values and letters a reading holds, each counted each time it is reached (what is shared counts as often as it is met; a slice's spare places count too). A statement '..UptoSaid' is the law's where the arguments, and the package variables that the reading takes, are together of bulk at most 1048576: NARROWER than '..Said'. Prove '..Said' where nothing that the law and all that it calls make is longer than what came in: it says more and counts as full. Else prove '..UptoSaid'. A law counts once. -/
mutual
def uptoBulk {H : Type} : DataW H → Nat
  | .lit (.string bytes) => bytes.length + 1
  | .lit _ => 1
  | .nil => 1
  | .ptr d => uptoBulk d + 1
  | .slice elems spare => uptoBulkAll elems + uptoBulkAll spare + 1
  | .agg parts => uptoBulkAll parts + 1
  | .iface _ d => uptoBulk d + 1
  | .map entries => uptoBulkEntries entries + 1
  | .held _ => 1
def uptoBulkAll {H : Type} : List (DataW H) → Nat
  | [] => 0
  | d :: r => uptoBulk d + uptoBulkAll r
def uptoBulkEntries {H : Type} : List (Lit × DataW H) → Nat
  | [] => 0
  | x :: r => uptoBulkEntry x + uptoBulkEntries r
def uptoBulkEntry {H : Type} : Lit × DataW H → Nat
  | (.string bytes, d) => bytes.length + uptoBulk d + 1
  | (_, d) => uptoBulk d + 1
 end
def uptoSmall : (H : Type) → List (DataW H) → Bool := fun _ ds => decide (uptoBulkAll ds ≤ 1048576)
def OpenSpec.upto (s : _root_.Go.ChangeSpec) : _root_.Go.OpenSpec := { _root_.Go.OpenSpec.ofChange s with cond := some uptoSmall }

/-- 'namesakelaw03.ShiftGoes', WHERE WHAT IT READS IS OF BULK AT MOST 1048576: true; the input reads as it did. -/
def shiftGoesUptoRow : OpenClaim := { program := "ytelpkdjibjddlaa", sum := "ef2f55e58917e92d141cd087735cea19ff610bc27784b17e199f62106fad23df", func := "namesake/namesakelaw03.ShiftGoes", spec := "shiftGoes", apart := false, narrowed := true }
def ShiftGoesUptoSaid : Prop := shiftGoesUptoRow.holds Try.pinned (OpenSpec.upto shiftGoesSpec)

/-- 'namesakelaw03.ShiftKeeps', WHERE WHAT IT READS IS OF BULK AT MOST 1048576: true; the input reads as it did. -/
def shiftKeepsUptoRow : OpenClaim := { program := "ytelpkdjibjddlaa", sum := "ef2f55e58917e92d141cd087735cea19ff610bc27784b17e199f62106fad23df", func := "namesake/namesakelaw03.ShiftKeeps", spec := "shiftKeeps", unfollowed := true, recurses := true, apart := false, narrowed := true }
def ShiftKeepsUptoSaid : Prop := shiftKeepsUptoRow.holds Try.pinned (OpenSpec.upto shiftKeepsSpec)

/-- 'namesakelaw02.EditApplies', WHERE WHAT IT READS IS OF BULK AT MOST 1048576: true; the input reads as it did. -/
def editAppliesUptoRow : OpenClaim := { program := "ytelpkdjibjddlaa", sum := "ef2f55e58917e92d141cd087735cea19ff610bc27784b17e199f62106fad23df", func := "namesake/namesakelaw02.EditApplies", spec := "editApplies", inPlace := ["internal/abi.NoEscape"], apart := false, narrowed := true }
def EditAppliesUptoSaid : Prop := editAppliesUptoRow.holds Try.pinned (OpenSpec.upto editAppliesSpec)

/-- 'namesakelaw02.EditRight', WHERE WHAT IT READS IS OF BULK AT MOST 1048576: true; the input reads as it did. -/
def editRightUptoRow : OpenClaim := { program := "ytelpkdjibjddlaa", sum := "ef2f55e58917e92d141cd087735cea19ff610bc27784b17e199f62106fad23df", func := "namesake/namesakelaw02.EditRight", spec := "editRight", inPlace := ["internal/abi.NoEscape"], unfollowed := true, recurses := true, apart := false, narrowed := true }
def EditRightUptoSaid : Prop := editRightUptoRow.holds Try.pinned (OpenSpec.upto editRightSpec)

/-- 'namesakelaw04.FilesDiff', WHERE WHAT IT READS IS OF BULK AT MOST 1048576: true; the input reads as it did. -/
def filesDiffUptoRow : OpenClaim := { program := "ytelpkdjibjddlaa", sum := "ef2f55e58917e92d141cd087735cea19ff610bc27784b17e199f62106fad23df", func := "namesake/namesakelaw04.FilesDiff", spec := "filesDiff", unfollowed := true, recurses := true, apart := false, narrowed := true }
def FilesDiffUptoSaid : Prop := filesDiffUptoRow.holds Try.pinned (OpenSpec.upto filesDiffSpec)

/-- 'namesakelaw04.FilesRight', WHERE WHAT IT READS IS OF BULK AT MOST 1048576: true; the input reads as it did. -/
def filesRightUptoRow : OpenClaim := { program := "ytelpkdjibjddlaa", sum := "ef2f55e58917e92d141cd087735cea19ff610bc27784b17e199f62106fad23df", func := "namesake/namesakelaw04.FilesRight", spec := "filesRight", unfollowed := true, recurses := true, apart := false, narrowed := true }
def FilesRightUptoSaid : Prop := filesRightUptoRow.holds Try.pinned (OpenSpec.upto filesRightSpec)

/-- 'namesakelaw02.EditMerges', WHERE WHAT IT READS IS OF BULK AT MOST 1048576: true; the input reads as it did. -/
def editMergesUptoRow : OpenClaim := { program := "ytelpkdjibjddlaa", sum := "ef2f55e58917e92d141cd087735cea19ff610bc27784b17e199f62106fad23df", func := "namesake/namesakelaw02.EditMerges", spec := "editMerges", inPlace := ["internal/abi.NoEscape"], unfollowed := true, recurses := true, apart := false, narrowed := true }
def EditMergesUptoSaid : Prop := editMergesUptoRow.holds Try.pinned (OpenSpec.upto editMergesSpec)

/-- 'namesakelaw03.ShiftJoins', WHERE WHAT IT READS IS OF BULK AT MOST 1048576: true; the input reads as it did. -/
def shiftJoinsUptoRow : OpenClaim := { program := "ytelpkdjibjddlaa", sum := "ef2f55e58917e92d141cd087735cea19ff610bc27784b17e199f62106fad23df", func := "namesake/namesakelaw03.ShiftJoins", spec := "shiftJoins", unfollowed := true, recurses := true, apart := false, narrowed := true }
def ShiftJoinsUptoSaid : Prop := shiftJoinsUptoRow.holds Try.pinned (OpenSpec.upto shiftJoinsSpec)

/-- 'namesakelaw03.ShiftMakes', WHERE WHAT IT READS IS OF BULK AT MOST 1048576: true; the input reads as it did. -/
def shiftMakesUptoRow : OpenClaim := { program := "ytelpkdjibjddlaa", sum := "ef2f55e58917e92d141cd087735cea19ff610bc27784b17e199f62106fad23df", func := "namesake/namesakelaw03.ShiftMakes", spec := "shiftMakes", inPlace := ["internal/abi.NoEscape"], unfollowed := true, recurses := true, apart := false, narrowed := true }
def ShiftMakesUptoSaid : Prop := shiftMakesUptoRow.holds Try.pinned (OpenSpec.upto shiftMakesSpec)

/-- 'namesakelaw04.FilesGoes', WHERE WHAT IT READS IS OF BULK AT MOST 1048576: true; the input reads as it did. -/
def filesGoesUptoRow : OpenClaim := { program := "ytelpkdjibjddlaa", sum := "ef2f55e58917e92d141cd087735cea19ff610bc27784b17e199f62106fad23df", func := "namesake/namesakelaw04.FilesGoes", spec := "filesGoes", inPlace := ["internal/abi.NoEscape"], unfollowed := true, recurses := true, apart := false, narrowed := true }
def FilesGoesUptoSaid : Prop := filesGoesUptoRow.holds Try.pinned (OpenSpec.upto filesGoesSpec)

/-- 'namesakelaw04.FilesApply', WHERE WHAT IT READS IS OF BULK AT MOST 1048576: true; the input reads as it did. -/
def filesApplyUptoRow : OpenClaim := { program := "ytelpkdjibjddlaa", sum := "ef2f55e58917e92d141cd087735cea19ff610bc27784b17e199f62106fad23df", func := "namesake/namesakelaw04.FilesApply", spec := "filesApply", inPlace := ["internal/abi.NoEscape"], unfollowed := true, recurses := true, apart := false, narrowed := true }
def FilesApplyUptoSaid : Prop := filesApplyUptoRow.holds Try.pinned (OpenSpec.upto filesApplySpec)

/-- 'namesakelaw04.FilesBack', WHERE WHAT IT READS IS OF BULK AT MOST 1048576: true; the input reads as it did. -/
def filesBackUptoRow : OpenClaim := { program := "ytelpkdjibjddlaa", sum := "ef2f55e58917e92d141cd087735cea19ff610bc27784b17e199f62106fad23df", func := "namesake/namesakelaw04.FilesBack", spec := "filesBack", inPlace := ["internal/abi.NoEscape"], unfollowed := true, recurses := true, apart := false, narrowed := true }
def FilesBackUptoSaid : Prop := filesBackUptoRow.holds Try.pinned (OpenSpec.upto filesBackSpec)

end Rows
end Go.Proofs.Ytelpkdjibjddlaa
