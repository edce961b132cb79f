/- Closed facts of the row, part 3: of this program alone. -/
import Derived.Test.YtdlahjpoiichkaaGreatDoorRows
import Derived.JoinedOf
import Derived.KernelRfl
set_option linter.unusedVariables false
set_option linter.unusedSimpArgs false
set_option linter.unusedSectionVars false
namespace Go.Proofs.YtdlahjpoiichkaaGreatDoor.formulaOrder
open Go
theorem jf13:(Rows.formulaOrderRow.maps == (Tryz.f4.params.toList ++ Rows.formulaOrderSpec.plain.varTypes Tryz.pinned.checked.prog).any (Tryz.pinned.checked.prog.mapsRec ·)) = true:=by kernel_rfl
theorem jf14:(Rows.formulaOrderRow.ifaces == (Tryz.f4.params.toList ++ Rows.formulaOrderSpec.plain.varTypes Tryz.pinned.checked.prog).any (Tryz.pinned.checked.prog.ifacesRec ·)) = true:=by kernel_rfl
theorem jf15:(Rows.formulaOrderRow.mapsOut == Tryz.pinned.checked.prog.mapsAmong Tryz.f4.resultTypes.toList) = true:=by kernel_rfl
theorem jf16:(Rows.formulaOrderRow.loops == (Tryz.f4.params.toList ++ Rows.formulaOrderSpec.plain.varTypes Tryz.pinned.checked.prog).any (Tryz.pinned.checked.prog.loopsFrom ·)) = true:=by kernel_rfl
theorem jf17:(Rows.formulaOrderRow.wideKeys == (Tryz.f4.params.toList ++ Rows.formulaOrderSpec.plain.varTypes Tryz.pinned.checked.prog ++ Tryz.f4.resultTypes.toList).any (Tryz.pinned.checked.prog.wideKeysFrom ·)) = true:=by kernel_rfl
theorem jf18:Rows.formulaOrderSpec.vars.all (Tryz.pinned.checked.prog.varReadable ·) = true:=by kernel_rfl
theorem jf19:Tryz.f4.resultTypes.all (fun t => Tryz.pinned.checked.prog.readableRec t && decide (t < Tryz.pinned.checked.prog.types.size)) = true:=by kernel_rfl
theorem jf20:(Rows.formulaOrderRow.ifacesOut == Tryz.f4.resultTypes.toList.any (Tryz.pinned.checked.prog.ifacesRec ·)) = true:=by kernel_rfl
theorem jf21:(Rows.formulaOrderRow.loopsOut == Tryz.f4.resultTypes.toList.any (Tryz.pinned.checked.prog.loopsFrom ·)) = true:=by kernel_rfl
theorem jf22:(Rows.formulaOrderRow.plainKeys == Tryz.pinned.checked.prog.plainKeys) = true:=by kernel_rfl
theorem jf23:Rows.formulaOrderRow.shortTexts.isNone = true:=by kernel_rfl
theorem jf24:Tryz.pinned.checked.prog.stopsHeard = true:=by kernel_rfl
end Go.Proofs.YtdlahjpoiichkaaGreatDoor.formulaOrder
