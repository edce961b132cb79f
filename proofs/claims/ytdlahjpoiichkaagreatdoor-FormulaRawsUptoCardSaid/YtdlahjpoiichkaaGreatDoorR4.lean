/- Closed facts of the row, part 4: of this program alone. -/
import Derived.Test.YtdlahjpoiichkaaGreatDoorRows
import Derived.JoinedOf
import Derived.KernelRfl
set_option linter.unusedVariables false
set_option linter.unusedSimpArgs false
set_option linter.unusedSectionVars false
namespace Go.Proofs.YtdlahjpoiichkaaGreatDoor.formulaRaws
open Go
theorem jf25:Tryz.pinned.checked.prog.mayEnter = true:=by kernel_rfl
theorem jf26:(Rows.formulaRawsUptoRow.lifted == Tryz.pinned.checked.prog.liftsFinal) = true:=by kernel_rfl
theorem jf27:(Tryz.pinned.checked.prog.make == some Rows.formulaRawsUptoRow.make) = true:=by kernel_rfl
theorem jf28:(Rows.formulaRawsUptoRow.kinds == (if Rows.formulaRawsUptoRow.domain.isEmpty then [] else Tryz.f3.params.toList.map fun t => match Tryz.pinned.checked.prog.underlying t with | some (.int k) => some k | _ => none)) = true:=by kernel_rfl
theorem jf29:(Rows.formulaRawsUptoRow.pinned == Rows.formulaRawsUptoRow.pinnedBy) = true:=by kernel_rfl
theorem jf30:(Rows.formulaRawsUptoRow.veiled == (Tryz.f3.params.toList ++ (Rows.OpenSpec.upto Rows.formulaRawsSpec).bare.plain.varTypes Tryz.pinned.checked.prog ++ Tryz.f3.resultTypes.toList).any (Tryz.pinned.checked.prog.veiledRec ·)) = true:=by kernel_rfl
theorem jf31:Rows.formulaRawsUptoRow.veiledFits Tryz.pinned.checked.prog Tryz.f3.params.toList (Tryz.f3.params.toList ++ (Rows.OpenSpec.upto Rows.formulaRawsSpec).bare.plain.varTypes Tryz.pinned.checked.prog ++ Tryz.f3.resultTypes.toList) = true:=by kernel_rfl
end Go.Proofs.YtdlahjpoiichkaaGreatDoor.formulaRaws
