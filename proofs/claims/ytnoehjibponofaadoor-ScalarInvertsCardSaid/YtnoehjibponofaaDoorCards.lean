/-
  DERIVED. GIVEN WITH THE SEED: THE CARDS: each row of YtnoehjibponofaaDoorRows.lean that lists a variable, with what it lists TIED to the program's text (the seventh form; the later family's looks); each row that meets fmt, with fmt's text TOLD by the authors' own Lean function (tested against real Go, not proved from fmt's source: count such statements apart). THE CARD IS WHAT COUNTS. Prove the row's statement (the work); the ties are given (YtnoehjibponofaaDoorTie.lean); close each card by the builder's one call (the guide's Derived/Test/ToyasCard.lean, 'card_holds'). Laid BY PROGRAM, IN A SANDBOX (cutbox-door.mjs). By AI agents, Wed Nov 11 2026. No macro, syntax, notation, axiom, sorry.
-/
import Derived.Test.YtnoehjibponofaaDoorRows
import GoSem.ClaimSeven
namespace Go.Proofs.YtnoehjibponofaaDoor
namespace Rows

/-- THE TIED CARD OF 'fareboxlaw06.ScalarDigits'. -/
def scalarDigitsCard : Claim7 := { stood := { row := scalarDigitsRow, standIns := [], harness := (true, "64b77d69de8d39f77b9ea8c15508f8cdc1b19fdcff512cb92374bde1b69983d8"), looks := false }, kinds := [], alts := [], laidByText := true, laidKinds := [.data], laidTests := true, laidLooks := .later }
def ScalarDigitsCardSaid : Prop := Claim7.holds Tryd.pinned (.plain (OpenSpec.ofChange scalarDigitsSpec)) scalarDigitsCard

/-- THE TIED CARD OF 'fareboxlaw06.ScalarReduces'. -/
def scalarReducesCard : Claim7 := { stood := { row := scalarReducesRow, standIns := [], harness := (true, "64b77d69de8d39f77b9ea8c15508f8cdc1b19fdcff512cb92374bde1b69983d8"), looks := false }, kinds := [], alts := [], laidByText := true, laidKinds := [.data], laidTests := true, laidLooks := .later }
def ScalarReducesCardSaid : Prop := Claim7.holds Tryd.pinned (.plain (OpenSpec.ofChange scalarReducesSpec)) scalarReducesCard

/-- THE TIED CARD OF 'fareboxlaw06.ScalarProducts'. -/
def scalarProductsCard : Claim7 := { stood := { row := scalarProductsRow, standIns := [], harness := (true, "64b77d69de8d39f77b9ea8c15508f8cdc1b19fdcff512cb92374bde1b69983d8"), looks := false }, kinds := [], alts := [], laidByText := true, laidKinds := [.data], laidTests := true, laidLooks := .later }
def ScalarProductsCardSaid : Prop := Claim7.holds Tryd.pinned (.plain (OpenSpec.ofChange scalarProductsSpec)) scalarProductsCard

/-- THE TIED CARD OF 'fareboxlaw06.ScalarSums'. -/
def scalarSumsCard : Claim7 := { stood := { row := scalarSumsRow, standIns := [], harness := (true, "64b77d69de8d39f77b9ea8c15508f8cdc1b19fdcff512cb92374bde1b69983d8"), looks := false }, kinds := [], alts := [], laidByText := true, laidKinds := [.data], laidTests := true, laidLooks := .later }
def ScalarSumsCardSaid : Prop := Claim7.holds Tryd.pinned (.plain (OpenSpec.ofChange scalarSumsSpec)) scalarSumsCard

/-- THE TIED CARD OF 'fareboxlaw06.ScalarInverts'. -/
def scalarInvertsCard : Claim7 := { stood := { row := scalarInvertsRow, standIns := [], harness := (true, "64b77d69de8d39f77b9ea8c15508f8cdc1b19fdcff512cb92374bde1b69983d8"), looks := false }, kinds := [], alts := [], laidByText := true, laidKinds := [.data], laidTests := true, laidLooks := .later }
def ScalarInvertsCardSaid : Prop := Claim7.holds Tryd.pinned (.plain (OpenSpec.ofChange scalarInvertsSpec)) scalarInvertsCard

/-- THE TIED CARD OF 'fareboxlaw06.ScalarRing'. -/
def scalarRingCard : Claim7 := { stood := { row := scalarRingRow, standIns := [], harness := (true, "64b77d69de8d39f77b9ea8c15508f8cdc1b19fdcff512cb92374bde1b69983d8"), looks := false }, kinds := [], alts := [], laidByText := true, laidKinds := [.data, .data, .data], laidTests := true, laidLooks := .later }
def ScalarRingCardSaid : Prop := Claim7.holds Tryd.pinned (.plain (OpenSpec.ofChange scalarRingSpec)) scalarRingCard

/-- THE TIED CARD OF 'fareboxlaw06.ScalarHalves'. -/
def scalarHalvesCard : Claim7 := { stood := { row := scalarHalvesRow, standIns := [], harness := (true, "64b77d69de8d39f77b9ea8c15508f8cdc1b19fdcff512cb92374bde1b69983d8"), looks := false }, kinds := [], alts := [], laidByText := true, laidKinds := [.data, .data, .data], laidTests := true, laidLooks := .later }
def ScalarHalvesCardSaid : Prop := Claim7.holds Tryd.pinned (.plain (OpenSpec.ofChange scalarHalvesSpec)) scalarHalvesCard

/-- THE TIED CARD OF 'fareboxlaw06.ScalarOneForm'. -/
def scalarOneFormCard : Claim7 := { stood := { row := scalarOneFormRow, standIns := [], harness := (true, "64b77d69de8d39f77b9ea8c15508f8cdc1b19fdcff512cb92374bde1b69983d8"), looks := false }, kinds := [], alts := [], laidByText := true, laidKinds := [.data, .data, .data, .data], laidTests := true, laidLooks := .later }
def ScalarOneFormCardSaid : Prop := Claim7.holds Tryd.pinned (.plain (OpenSpec.ofChange scalarOneFormSpec)) scalarOneFormCard

/-- THE TIED CARD OF 'fareboxlaw06.ScalarDigitsBack'. -/
def scalarDigitsBackCard : Claim7 := { stood := { row := scalarDigitsBackRow, standIns := [], harness := (true, "64b77d69de8d39f77b9ea8c15508f8cdc1b19fdcff512cb92374bde1b69983d8"), looks := false }, kinds := [], alts := [], laidByText := true, laidKinds := [.data, .data, .data], laidTests := true, laidLooks := .later }
def ScalarDigitsBackCardSaid : Prop := Claim7.holds Tryd.pinned (.plain (OpenSpec.ofChange scalarDigitsBackSpec)) scalarDigitsBackCard

/-- THE TIED CARD OF 'fareboxlaw06.ScalarField'. -/
def scalarFieldCard : Claim7 := { stood := { row := scalarFieldRow, standIns := [], harness := (true, "64b77d69de8d39f77b9ea8c15508f8cdc1b19fdcff512cb92374bde1b69983d8"), looks := false }, kinds := [], alts := [], laidByText := true, laidKinds := [.data, .data, .data], laidTests := true, laidLooks := .later }
def ScalarFieldCardSaid : Prop := Claim7.holds Tryd.pinned (.plain (OpenSpec.ofChange scalarFieldSpec)) scalarFieldCard

/-- THE SECOND FORM's CARD OF 'fareboxlaw06.ScalarDigits'. -/
def scalarDigitsUptoCard : Claim7 := { stood := { row := scalarDigitsUptoRow, standIns := [], harness := (true, "64b77d69de8d39f77b9ea8c15508f8cdc1b19fdcff512cb92374bde1b69983d8"), looks := false }, kinds := [], alts := [], laidByText := true, laidKinds := [.data], laidTests := true, laidLooks := .later }
def ScalarDigitsUptoCardSaid : Prop := Claim7.holds Tryd.pinned (.plain (OpenSpec.upto scalarDigitsSpec)) scalarDigitsUptoCard

/-- THE SECOND FORM's CARD OF 'fareboxlaw06.ScalarReduces'. -/
def scalarReducesUptoCard : Claim7 := { stood := { row := scalarReducesUptoRow, standIns := [], harness := (true, "64b77d69de8d39f77b9ea8c15508f8cdc1b19fdcff512cb92374bde1b69983d8"), looks := false }, kinds := [], alts := [], laidByText := true, laidKinds := [.data], laidTests := true, laidLooks := .later }
def ScalarReducesUptoCardSaid : Prop := Claim7.holds Tryd.pinned (.plain (OpenSpec.upto scalarReducesSpec)) scalarReducesUptoCard

/-- THE SECOND FORM's CARD OF 'fareboxlaw06.ScalarProducts'. -/
def scalarProductsUptoCard : Claim7 := { stood := { row := scalarProductsUptoRow, standIns := [], harness := (true, "64b77d69de8d39f77b9ea8c15508f8cdc1b19fdcff512cb92374bde1b69983d8"), looks := false }, kinds := [], alts := [], laidByText := true, laidKinds := [.data], laidTests := true, laidLooks := .later }
def ScalarProductsUptoCardSaid : Prop := Claim7.holds Tryd.pinned (.plain (OpenSpec.upto scalarProductsSpec)) scalarProductsUptoCard

/-- THE SECOND FORM's CARD OF 'fareboxlaw06.ScalarSums'. -/
def scalarSumsUptoCard : Claim7 := { stood := { row := scalarSumsUptoRow, standIns := [], harness := (true, "64b77d69de8d39f77b9ea8c15508f8cdc1b19fdcff512cb92374bde1b69983d8"), looks := false }, kinds := [], alts := [], laidByText := true, laidKinds := [.data], laidTests := true, laidLooks := .later }
def ScalarSumsUptoCardSaid : Prop := Claim7.holds Tryd.pinned (.plain (OpenSpec.upto scalarSumsSpec)) scalarSumsUptoCard

/-- THE SECOND FORM's CARD OF 'fareboxlaw06.ScalarInverts'. -/
def scalarInvertsUptoCard : Claim7 := { stood := { row := scalarInvertsUptoRow, standIns := [], harness := (true, "64b77d69de8d39f77b9ea8c15508f8cdc1b19fdcff512cb92374bde1b69983d8"), looks := false }, kinds := [], alts := [], laidByText := true, laidKinds := [.data], laidTests := true, laidLooks := .later }
def ScalarInvertsUptoCardSaid : Prop := Claim7.holds Tryd.pinned (.plain (OpenSpec.upto scalarInvertsSpec)) scalarInvertsUptoCard

/-- THE SECOND FORM's CARD OF 'fareboxlaw06.ScalarRing'. -/
def scalarRingUptoCard : Claim7 := { stood := { row := scalarRingUptoRow, standIns := [], harness := (true, "64b77d69de8d39f77b9ea8c15508f8cdc1b19fdcff512cb92374bde1b69983d8"), looks := false }, kinds := [], alts := [], laidByText := true, laidKinds := [.data, .data, .data], laidTests := true, laidLooks := .later }
def ScalarRingUptoCardSaid : Prop := Claim7.holds Tryd.pinned (.plain (OpenSpec.upto scalarRingSpec)) scalarRingUptoCard

/-- THE SECOND FORM's CARD OF 'fareboxlaw06.ScalarHalves'. -/
def scalarHalvesUptoCard : Claim7 := { stood := { row := scalarHalvesUptoRow, standIns := [], harness := (true, "64b77d69de8d39f77b9ea8c15508f8cdc1b19fdcff512cb92374bde1b69983d8"), looks := false }, kinds := [], alts := [], laidByText := true, laidKinds := [.data, .data, .data], laidTests := true, laidLooks := .later }
def ScalarHalvesUptoCardSaid : Prop := Claim7.holds Tryd.pinned (.plain (OpenSpec.upto scalarHalvesSpec)) scalarHalvesUptoCard

/-- THE SECOND FORM's CARD OF 'fareboxlaw06.ScalarOneForm'. -/
def scalarOneFormUptoCard : Claim7 := { stood := { row := scalarOneFormUptoRow, standIns := [], harness := (true, "64b77d69de8d39f77b9ea8c15508f8cdc1b19fdcff512cb92374bde1b69983d8"), looks := false }, kinds := [], alts := [], laidByText := true, laidKinds := [.data, .data, .data, .data], laidTests := true, laidLooks := .later }
def ScalarOneFormUptoCardSaid : Prop := Claim7.holds Tryd.pinned (.plain (OpenSpec.upto scalarOneFormSpec)) scalarOneFormUptoCard

/-- THE SECOND FORM's CARD OF 'fareboxlaw06.ScalarDigitsBack'. -/
def scalarDigitsBackUptoCard : Claim7 := { stood := { row := scalarDigitsBackUptoRow, standIns := [], harness := (true, "64b77d69de8d39f77b9ea8c15508f8cdc1b19fdcff512cb92374bde1b69983d8"), looks := false }, kinds := [], alts := [], laidByText := true, laidKinds := [.data, .data, .data], laidTests := true, laidLooks := .later }
def ScalarDigitsBackUptoCardSaid : Prop := Claim7.holds Tryd.pinned (.plain (OpenSpec.upto scalarDigitsBackSpec)) scalarDigitsBackUptoCard

/-- THE SECOND FORM's CARD OF 'fareboxlaw06.ScalarField'. -/
def scalarFieldUptoCard : Claim7 := { stood := { row := scalarFieldUptoRow, standIns := [], harness := (true, "64b77d69de8d39f77b9ea8c15508f8cdc1b19fdcff512cb92374bde1b69983d8"), looks := false }, kinds := [], alts := [], laidByText := true, laidKinds := [.data, .data, .data], laidTests := true, laidLooks := .later }
def ScalarFieldUptoCardSaid : Prop := Claim7.holds Tryd.pinned (.plain (OpenSpec.upto scalarFieldSpec)) scalarFieldUptoCard
end Rows
end Go.Proofs.YtnoehjibponofaaDoor
