/- Closed facts of the row, part 6: of this program alone. -/
import Derived.Test.YtdlahjpoiichkaaGreatDoorRows
import Derived.JoinedOf
import Derived.KernelRfl
import Derived.SevenTiedAt
set_option linter.unusedVariables false
set_option linter.unusedSimpArgs false
set_option linter.unusedSectionVars false
namespace Go.Proofs.YtdlahjpoiichkaaGreatDoor.formulaRaws
open Go
theorem jc1:Rows.formulaRawsUptoRow.wfByText (Rows.OpenSpec.upto Rows.formulaRawsSpec) = true:=by kernel_rfl
theorem jc2 : Tryz.pinned.checked.prog.mainIs = some (true, "53c5f695c884b1b452e8f2e73227ce86b02727ad5e531ddb74c5ff9f2191b0c3".toList) := by kernel_rfl
theorem jc4:Tryz.prog.wantsStandIn 28 = false:=by kernel_rfl
end Go.Proofs.YtdlahjpoiichkaaGreatDoor.formulaRaws
