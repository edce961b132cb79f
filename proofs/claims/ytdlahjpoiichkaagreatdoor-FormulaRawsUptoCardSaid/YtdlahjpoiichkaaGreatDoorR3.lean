/- Closed facts of the row, part 3: of this program alone. -/
import Derived.Test.YtdlahjpoiichkaaGreatDoorRows
import Derived.JoinedOf
import Derived.KernelRfl
set_option linter.unusedVariables false
set_option linter.unusedSimpArgs false
set_option linter.unusedSectionVars false
namespace Go.Proofs.YtdlahjpoiichkaaGreatDoor.formulaRaws
open Go
theorem jf13:(Rows.formulaRawsUptoRow.maps == (Tryz.f3.params.toList ++ (Rows.OpenSpec.upto Rows.formulaRawsSpec).bare.plain.varTypes Tryz.pinned.checked.prog).any (Tryz.pinned.checked.prog.mapsRec ·)) = true:=by kernel_rfl
theorem jf14:(Rows.formulaRawsUptoRow.ifaces == (Tryz.f3.params.toList ++ (Rows.OpenSpec.upto Rows.formulaRawsSpec).bare.plain.varTypes Tryz.pinned.checked.prog).any (Tryz.pinned.checked.prog.ifacesRec ·)) = true:=by kernel_rfl
theorem jf15:(Rows.formulaRawsUptoRow.mapsOut == Tryz.pinned.checked.prog.mapsAmong Tryz.f3.resultTypes.toList) = true:=by kernel_rfl
theorem jf16:(Rows.formulaRawsUptoRow.loops == (Tryz.f3.params.toList ++ (Rows.OpenSpec.upto Rows.formulaRawsSpec).bare.plain.varTypes Tryz.pinned.checked.prog).any (Tryz.pinned.checked.prog.loopsFrom ·)) = true:=by kernel_rfl
theorem jf17:(Rows.formulaRawsUptoRow.wideKeys == (Tryz.f3.params.toList ++ (Rows.OpenSpec.upto Rows.formulaRawsSpec).bare.plain.varTypes Tryz.pinned.checked.prog ++ Tryz.f3.resultTypes.toList).any (Tryz.pinned.checked.prog.wideKeysFrom ·)) = true:=by kernel_rfl
theorem jf18:(Rows.OpenSpec.upto Rows.formulaRawsSpec).bare.vars.all (Tryz.pinned.checked.prog.varReadable ·) = true:=by kernel_rfl
theorem jf19:Tryz.f3.resultTypes.all (fun t => Tryz.pinned.checked.prog.readableRec t && decide (t < Tryz.pinned.checked.prog.types.size)) = true:=by kernel_rfl
theorem jf20:(Rows.formulaRawsUptoRow.ifacesOut == Tryz.f3.resultTypes.toList.any (Tryz.pinned.checked.prog.ifacesRec ·)) = true:=by kernel_rfl
theorem jf21:(Rows.formulaRawsUptoRow.loopsOut == Tryz.f3.resultTypes.toList.any (Tryz.pinned.checked.prog.loopsFrom ·)) = true:=by kernel_rfl
theorem jf22:(Rows.formulaRawsUptoRow.plainKeys == Tryz.pinned.checked.prog.plainKeys) = true:=by kernel_rfl
theorem jf23:Rows.formulaRawsUptoRow.shortTexts.isNone = true:=by kernel_rfl
theorem jf24:Tryz.pinned.checked.prog.stopsHeard = true:=by kernel_rfl
end Go.Proofs.YtdlahjpoiichkaaGreatDoor.formulaRaws
