/- Closed facts of the row, part 5: of this program alone. -/
import Derived.Test.YtdlahjpoiichkaaGreatDoorRows
import Derived.JoinedOf
import Derived.KernelRfl
set_option linter.unusedVariables false
set_option linter.unusedSimpArgs false
set_option linter.unusedSectionVars false
namespace Go.Proofs.YtdlahjpoiichkaaGreatDoor.formulaRaws
open Go
theorem jn : Tryz.pinned.checked.prog.funcNamed "peculium/peculiumlaw06.FormulaRaws" = some 3 := by kernel_rfl
end Go.Proofs.YtdlahjpoiichkaaGreatDoor.formulaRaws
