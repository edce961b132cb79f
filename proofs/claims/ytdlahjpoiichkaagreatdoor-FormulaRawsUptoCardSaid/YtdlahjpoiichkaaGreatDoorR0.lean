/- Closed facts of the row, part 0: of this program alone. -/
import Derived.Test.YtdlahjpoiichkaaGreatDoorRows
import Derived.JoinedOf
import Derived.KernelRfl
set_option linter.unusedVariables false
set_option linter.unusedSimpArgs false
set_option linter.unusedSectionVars false
namespace Go.Proofs.YtdlahjpoiichkaaGreatDoor.formulaRaws
open Go
theorem jf0:Rows.formulaRawsUptoRow.wf (OpenSpec.ofChange (Rows.OpenSpec.upto Rows.formulaRawsSpec).bare) = true:=by kernel_rfl
theorem jf1:laidOutB Tryz.pinned.checked.prog = true:=by kernel_rfl
theorem jf2:mapsRowed Tryz.pinned.checked.prog = true:=by kernel_rfl
theorem jf3:Tryz.f3.params.all (Tryz.pinned.checked.prog.readableRec ·) = true:=by kernel_rfl
theorem jf4:namedTie Tryz.pinned.checked.prog Rows.formulaRawsUptoRow.named (Rows.OpenSpec.upto Rows.formulaRawsSpec).bare.vars = true:=by kernel_rfl
theorem jf5:(Rows.formulaRawsUptoRow.stops == []) = true:=by kernel_rfl
theorem jf6:(Tryz.pinned.checked.prog.stops == []) = true:=by kernel_rfl
theorem jf7:(Rows.formulaRawsUptoRow.knobs == []) = true:=by kernel_rfl
theorem jf8:(Tryz.pinned.checked.prog.stopKnobs == []) = true:=by kernel_rfl
end Go.Proofs.YtdlahjpoiichkaaGreatDoor.formulaRaws
