/- Closed facts of the row, part 1: of this program alone. -/
import Derived.Test.YtdlahjpoiichkaaGreatDoorRows
import Derived.JoinedOf
import Derived.KernelRfl
set_option linter.unusedVariables false
set_option linter.unusedSimpArgs false
set_option linter.unusedSectionVars false
namespace Go.Proofs.YtdlahjpoiichkaaGreatDoor.formulaRaws
open Go
theorem jf9:(Rows.formulaRawsUptoRow.inPlace == Tryz.pinned.checked.prog.inPlace 3) = true:=by kernel_rfl
theorem jf10:(Rows.formulaRawsUptoRow.unfollowed == Tryz.pinned.checked.prog.unfollowed 3) = true:=by kernel_rfl
end Go.Proofs.YtdlahjpoiichkaaGreatDoor.formulaRaws
