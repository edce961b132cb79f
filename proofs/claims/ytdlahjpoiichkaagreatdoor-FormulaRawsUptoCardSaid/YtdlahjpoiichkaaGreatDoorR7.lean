/- Closed facts of the row, part 7: of this program alone. -/
import Derived.Test.YtdlahjpoiichkaaGreatDoorRows
import Derived.JoinedOf
import Derived.KernelRfl
import Derived.SevenTiedAt
set_option linter.unusedVariables false
set_option linter.unusedSimpArgs false
set_option linter.unusedSectionVars false
namespace Go.Proofs.YtdlahjpoiichkaaGreatDoor.formulaRaws
open Go
theorem jc3:true = Tryz.pinned.checked.prog.looks []:=by kernel_rfl
theorem jc5:false = Rows.formulaRawsUptoRow.goesBy Tryz.pinned.checked.prog:=by kernel_rfl
end Go.Proofs.YtdlahjpoiichkaaGreatDoor.formulaRaws
