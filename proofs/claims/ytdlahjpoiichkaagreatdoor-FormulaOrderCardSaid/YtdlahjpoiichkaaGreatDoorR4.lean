/- Closed facts of the row, part 4: of this program alone. -/
import Derived.Test.YtdlahjpoiichkaaGreatDoorRows
import Derived.JoinedOf
import Derived.KernelRfl
set_option linter.unusedVariables false
set_option linter.unusedSimpArgs false
set_option linter.unusedSectionVars false
namespace Go.Proofs.YtdlahjpoiichkaaGreatDoor.formulaOrder
open Go
theorem jf25:Tryz.pinned.checked.prog.mayEnter = true:=by kernel_rfl
theorem jf26:(Rows.formulaOrderRow.lifted == Tryz.pinned.checked.prog.liftsFinal) = true:=by kernel_rfl
theorem jf27:(Tryz.pinned.checked.prog.make == some Rows.formulaOrderRow.make) = true:=by kernel_rfl
theorem jf28:(Rows.formulaOrderRow.kinds == (if Rows.formulaOrderRow.domain.isEmpty then [] else Tryz.f4.params.toList.map fun t => match Tryz.pinned.checked.prog.underlying t with | some (.int k) => some k | _ => none)) = true:=by kernel_rfl
theorem jf29:(Rows.formulaOrderRow.pinned == Rows.formulaOrderRow.pinnedBy) = true:=by kernel_rfl
theorem jf30:(Rows.formulaOrderRow.veiled == (Tryz.f4.params.toList ++ Rows.formulaOrderSpec.plain.varTypes Tryz.pinned.checked.prog ++ Tryz.f4.resultTypes.toList).any (Tryz.pinned.checked.prog.veiledRec ·)) = true:=by kernel_rfl
theorem jf31:Rows.formulaOrderRow.veiledFits Tryz.pinned.checked.prog Tryz.f4.params.toList (Tryz.f4.params.toList ++ Rows.formulaOrderSpec.plain.varTypes Tryz.pinned.checked.prog ++ Tryz.f4.resultTypes.toList) = true:=by kernel_rfl
end Go.Proofs.YtdlahjpoiichkaaGreatDoor.formulaOrder
