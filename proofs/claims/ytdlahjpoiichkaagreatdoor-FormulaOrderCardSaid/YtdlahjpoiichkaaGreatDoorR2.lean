/- Closed facts of the row, part 2: of this program alone. -/
import Derived.Test.YtdlahjpoiichkaaGreatDoorRows
import Derived.JoinedOf
import Derived.KernelRfl
set_option linter.unusedVariables false
set_option linter.unusedSimpArgs false
set_option linter.unusedSectionVars false
namespace Go.Proofs.YtdlahjpoiichkaaGreatDoor.formulaOrder
open Go
theorem jf11:(Rows.formulaOrderRow.recurses == Tryz.pinned.checked.prog.recurses 4) = true:=by kernel_rfl
theorem jf12:(Rows.formulaOrderRow.named == Tryz.pinned.checked.prog.varsNamed 4) = true:=by kernel_rfl
end Go.Proofs.YtdlahjpoiichkaaGreatDoor.formulaOrder
