/-
  DERIVED. GIVEN WITH THE SEED: THE CARDS: each row of YtdlahjpoiichkaaGreatDoorRows.lean that lists a variable, with what it lists TIED to the program's text (the seventh form; the later family's looks); each row that meets fmt, with fmt's text TOLD by the authors' own Lean function (tested against real Go, not proved from fmt's source: count such statements apart). THE CARD IS WHAT COUNTS. Prove the row's statement (the work); the ties are given (YtdlahjpoiichkaaGreatDoorTie.lean); close each card by the builder's one call (the guide's Derived/Test/ToyasCard.lean, 'card_holds'). Laid BY PROGRAM, IN A SANDBOX (cutbox-door.mjs). By AI agents, Wed Nov 11 2026. No macro, syntax, notation, axiom, sorry.
-/
import Derived.Test.YtdlahjpoiichkaaGreatDoorRows
import GoSem.ClaimSeven
namespace Go.Proofs.YtdlahjpoiichkaaGreatDoor
namespace Rows

/-- THE TIED CARD OF 'peculiumlaw06.FormulaRaws'. -/
def formulaRawsCard : Claim7 := { stood := { row := formulaRawsRow, standIns := [], harness := (true, "53c5f695c884b1b452e8f2e73227ce86b02727ad5e531ddb74c5ff9f2191b0c3"), looks := true }, kinds := [], alts := [], laidByText := true, laidKinds := [.data, .data, .data], laidTests := true, laidLooks := .later }
def FormulaRawsCardSaid : Prop := Claim7.holds Tryz.pinned (.plain (OpenSpec.ofChange formulaRawsSpec)) formulaRawsCard

/-- THE TIED CARD OF 'peculiumlaw06.FormulaOrder'. -/
def formulaOrderCard : Claim7 := { stood := { row := formulaOrderRow, standIns := [], harness := (true, "53c5f695c884b1b452e8f2e73227ce86b02727ad5e531ddb74c5ff9f2191b0c3"), looks := true }, kinds := [], alts := [], laidByText := true, laidKinds := [.data, .data, .data], laidTests := true, laidLooks := .later }
def FormulaOrderCardSaid : Prop := Claim7.holds Tryz.pinned (.plain (OpenSpec.ofChange formulaOrderSpec)) formulaOrderCard

/-- THE TIED CARD OF 'peculiumlaw06.FormulaOpens'. -/
def formulaOpensCard : Claim7 := { stood := { row := formulaOpensRow, standIns := [], harness := (true, "53c5f695c884b1b452e8f2e73227ce86b02727ad5e531ddb74c5ff9f2191b0c3"), looks := true }, kinds := [], alts := [], laidByText := true, laidKinds := [.data, .data, .data], laidTests := true, laidLooks := .later }
def FormulaOpensCardSaid : Prop := Claim7.holds Tryz.pinned (.plain (OpenSpec.ofChange formulaOpensSpec)) formulaOpensCard

/-- THE SECOND FORM's CARD OF 'peculiumlaw06.FormulaRaws'. -/
def formulaRawsUptoCard : Claim7 := { stood := { row := formulaRawsUptoRow, standIns := [], harness := (true, "53c5f695c884b1b452e8f2e73227ce86b02727ad5e531ddb74c5ff9f2191b0c3"), looks := true }, kinds := [], alts := [], laidByText := true, laidKinds := [.data, .data, .data], laidTests := true, laidLooks := .later }
def FormulaRawsUptoCardSaid : Prop := Claim7.holds Tryz.pinned (.plain (OpenSpec.upto formulaRawsSpec)) formulaRawsUptoCard

/-- THE SECOND FORM's CARD OF 'peculiumlaw06.FormulaOrder'. -/
def formulaOrderUptoCard : Claim7 := { stood := { row := formulaOrderUptoRow, standIns := [], harness := (true, "53c5f695c884b1b452e8f2e73227ce86b02727ad5e531ddb74c5ff9f2191b0c3"), looks := true }, kinds := [], alts := [], laidByText := true, laidKinds := [.data, .data, .data], laidTests := true, laidLooks := .later }
def FormulaOrderUptoCardSaid : Prop := Claim7.holds Tryz.pinned (.plain (OpenSpec.upto formulaOrderSpec)) formulaOrderUptoCard

/-- THE SECOND FORM's CARD OF 'peculiumlaw06.FormulaOpens'. -/
def formulaOpensUptoCard : Claim7 := { stood := { row := formulaOpensUptoRow, standIns := [], harness := (true, "53c5f695c884b1b452e8f2e73227ce86b02727ad5e531ddb74c5ff9f2191b0c3"), looks := true }, kinds := [], alts := [], laidByText := true, laidKinds := [.data, .data, .data], laidTests := true, laidLooks := .later }
def FormulaOpensUptoCardSaid : Prop := Claim7.holds Tryz.pinned (.plain (OpenSpec.upto formulaOpensSpec)) formulaOpensUptoCard
end Rows
end Go.Proofs.YtdlahjpoiichkaaGreatDoor
