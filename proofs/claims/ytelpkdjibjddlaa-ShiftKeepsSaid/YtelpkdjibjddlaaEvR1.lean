/-
  The tables of the first seat's program.
-/
import Derived.Test.YtelpkdjibjddlaaEvZ
import Derived.Test.YtelpkdjibjddlaaProg
set_option linter.unusedSimpArgs false
set_option linter.unusedVariables false
namespace Go.Ev.R1
open Go Go.Ev Go.Proofs
def masks : Masks := ⟨35494216806390423241907689750524, 5070602400912917605986812821504, 5846006549323611672814739330865132078623730171903, 1451867715405137689006541402422498927485247528959⟩
noncomputable def T : Tab := Tab.sub Try.prog masks
set_option maxRecDepth 100000
theorem fns : ∀ f, masks.fns.testBit f = true → fnSure Try.prog f = true := bits_all (n := 123) (by decide +kernel) (by decide +kernel)
theorem exts : ∀ f, masks.exts.testBit f = true → extSure Try.prog f = true := bits_all (n := 123) (by decide +kernel) (by decide +kernel)
theorem zeros : ∀ f, masks.zeros.testBit f = true → zeroSure Try.prog f = true := bits_all (n := 162) (by decide +kernel) (by decide +kernel)
theorem eqs : ∀ f, masks.eqs.testBit f = true → eqSure Try.prog f = true := bits_all (n := 162) (by decide +kernel) (by decide +kernel)
theorem sure : masks.Sure Try.prog := ⟨fns, exts, zeros, eqs⟩
theorem ok : T.Ok Try.prog := Tab.sub_ok sure
theorem okFns : T.Fns Try.prog fun c => codeOk T.globs c = true := Tab.sub_fns sure
def yes (r : Option (Value × St)) : Bool := match r with
  | some (.bool b, _) => b
  | _ => false
theorem alive3 : yes (evCall T 1000 15 [] ⟨.leaf, 10, []⟩) = true := by decide +kernel
theorem alive2 : yes (evCall T 1000 27 [] ⟨.leaf, 10, []⟩) = true := by decide +kernel
theorem alive4 : yes (evCall T 1000 39 [] ⟨.leaf, 10, []⟩) = true := by decide +kernel
end Go.Ev.R1
