/-
  DERIVED. GIVEN WITH THE SEED: THE PROGRAM's TIES (one call each: nine closed facts by the kernel) AND EACH ROW's TIE, after the 31st guide's Derived/Test/Toyas{Tie, Card}.lean. No idea stands in it: it is a product of the set-up. Laid BY PROGRAM, IN A SANDBOX (cutbox-door.mjs). By AI agents, Wed Nov 11 2026. No macro, syntax, notation, axiom, sorry.
-/
import Derived.Test.YtnoehjibponofaaDoorRows
import Derived.LaidByTextLater
import Derived.SevenTiedAt
import Derived.LaidSub
import Derived.LaidOnce
namespace Go.Proofs.YtnoehjibponofaaDoor
open Go
set_option maxRecDepth 100000
theorem seatTie1 : Tryd.prog.laidByTextLater [("farebox/scalar.order", Rows.laid_farebox_scalar_order), ("farebox/fareboxlaw06.one", Rows.laid_farebox_fareboxlaw06_one), ("farebox/fareboxlaw06.two", Rows.laid_farebox_fareboxlaw06_two), ("farebox/fareboxlaw06.order", Rows.laid_farebox_fareboxlaw06_order)] [.data, .data, .data, .data] true :=
  Program.laidByTextLater_by_one 29 8 33 (by kernel_rfl) (by kernel_rfl) (by kernel_rfl) (by kernel_rfl) (by kernel_rfl) (by kernel_rfl) (fun _ _ => by kernel_rfl)
theorem noOwnUnsafe : Tryd.pinned.checked.prog.headLifts.contains "ownunsafe" = false := by kernel_rfl
theorem tie : Tryd.prog.laidByTextLater [("farebox/scalar.order", Rows.laid_farebox_scalar_order)] [.data] true :=
  Program.laidByTextLater.sub seatTie1 ["farebox/scalar.order"] (by kernel_rfl) (by kernel_rfl)
theorem scalarDigits_row_tie : Rows.scalarDigitsRow.laidByTextAt .later Tryd.pinned [.data] true :=
  OpenClaim.laidByTextAt_later rfl rfl tie noOwnUnsafe
theorem scalarReduces_row_tie : Rows.scalarReducesRow.laidByTextAt .later Tryd.pinned [.data] true :=
  OpenClaim.laidByTextAt_later rfl rfl tie noOwnUnsafe
theorem scalarProducts_row_tie : Rows.scalarProductsRow.laidByTextAt .later Tryd.pinned [.data] true :=
  OpenClaim.laidByTextAt_later rfl rfl tie noOwnUnsafe
theorem scalarSums_row_tie : Rows.scalarSumsRow.laidByTextAt .later Tryd.pinned [.data] true :=
  OpenClaim.laidByTextAt_later rfl rfl tie noOwnUnsafe
theorem scalarInverts_row_tie : Rows.scalarInvertsRow.laidByTextAt .later Tryd.pinned [.data] true :=
  OpenClaim.laidByTextAt_later rfl rfl tie noOwnUnsafe
theorem tie2 : Tryd.prog.laidByTextLater [("farebox/scalar.order", Rows.laid_farebox_scalar_order), ("farebox/fareboxlaw06.one", Rows.laid_farebox_fareboxlaw06_one), ("farebox/fareboxlaw06.two", Rows.laid_farebox_fareboxlaw06_two)] [.data, .data, .data] true :=
  Program.laidByTextLater.sub seatTie1 ["farebox/scalar.order", "farebox/fareboxlaw06.one", "farebox/fareboxlaw06.two"] (by kernel_rfl) (by kernel_rfl)
theorem scalarRing_row_tie : Rows.scalarRingRow.laidByTextAt .later Tryd.pinned [.data, .data, .data] true :=
  OpenClaim.laidByTextAt_later rfl rfl tie2 noOwnUnsafe
theorem scalarHalves_row_tie : Rows.scalarHalvesRow.laidByTextAt .later Tryd.pinned [.data, .data, .data] true :=
  OpenClaim.laidByTextAt_later rfl rfl tie2 noOwnUnsafe
theorem scalarDigitsBack_row_tie : Rows.scalarDigitsBackRow.laidByTextAt .later Tryd.pinned [.data, .data, .data] true :=
  OpenClaim.laidByTextAt_later rfl rfl tie2 noOwnUnsafe
theorem scalarField_row_tie : Rows.scalarFieldRow.laidByTextAt .later Tryd.pinned [.data, .data, .data] true :=
  OpenClaim.laidByTextAt_later rfl rfl tie2 noOwnUnsafe
theorem tie3 : Tryd.prog.laidByTextLater [("farebox/scalar.order", Rows.laid_farebox_scalar_order), ("farebox/fareboxlaw06.one", Rows.laid_farebox_fareboxlaw06_one), ("farebox/fareboxlaw06.two", Rows.laid_farebox_fareboxlaw06_two), ("farebox/fareboxlaw06.order", Rows.laid_farebox_fareboxlaw06_order)] [.data, .data, .data, .data] true :=
  Program.laidByTextLater.sub seatTie1 ["farebox/scalar.order", "farebox/fareboxlaw06.one", "farebox/fareboxlaw06.two", "farebox/fareboxlaw06.order"] (by kernel_rfl) (by kernel_rfl)
theorem scalarOneForm_row_tie : Rows.scalarOneFormRow.laidByTextAt .later Tryd.pinned [.data, .data, .data, .data] true :=
  OpenClaim.laidByTextAt_later rfl rfl tie3 noOwnUnsafe
theorem scalarDigitsUpto_row_tie : Rows.scalarDigitsUptoRow.laidByTextAt .later Tryd.pinned [.data] true :=
  OpenClaim.laidByTextAt_later rfl rfl tie noOwnUnsafe
theorem scalarReducesUpto_row_tie : Rows.scalarReducesUptoRow.laidByTextAt .later Tryd.pinned [.data] true :=
  OpenClaim.laidByTextAt_later rfl rfl tie noOwnUnsafe
theorem scalarProductsUpto_row_tie : Rows.scalarProductsUptoRow.laidByTextAt .later Tryd.pinned [.data] true :=
  OpenClaim.laidByTextAt_later rfl rfl tie noOwnUnsafe
theorem scalarSumsUpto_row_tie : Rows.scalarSumsUptoRow.laidByTextAt .later Tryd.pinned [.data] true :=
  OpenClaim.laidByTextAt_later rfl rfl tie noOwnUnsafe
theorem scalarInvertsUpto_row_tie : Rows.scalarInvertsUptoRow.laidByTextAt .later Tryd.pinned [.data] true :=
  OpenClaim.laidByTextAt_later rfl rfl tie noOwnUnsafe
theorem scalarRingUpto_row_tie : Rows.scalarRingUptoRow.laidByTextAt .later Tryd.pinned [.data, .data, .data] true :=
  OpenClaim.laidByTextAt_later rfl rfl tie2 noOwnUnsafe
theorem scalarHalvesUpto_row_tie : Rows.scalarHalvesUptoRow.laidByTextAt .later Tryd.pinned [.data, .data, .data] true :=
  OpenClaim.laidByTextAt_later rfl rfl tie2 noOwnUnsafe
theorem scalarOneFormUpto_row_tie : Rows.scalarOneFormUptoRow.laidByTextAt .later Tryd.pinned [.data, .data, .data, .data] true :=
  OpenClaim.laidByTextAt_later rfl rfl tie3 noOwnUnsafe
theorem scalarDigitsBackUpto_row_tie : Rows.scalarDigitsBackUptoRow.laidByTextAt .later Tryd.pinned [.data, .data, .data] true :=
  OpenClaim.laidByTextAt_later rfl rfl tie2 noOwnUnsafe
theorem scalarFieldUpto_row_tie : Rows.scalarFieldUptoRow.laidByTextAt .later Tryd.pinned [.data, .data, .data] true :=
  OpenClaim.laidByTextAt_later rfl rfl tie2 noOwnUnsafe
end Go.Proofs.YtnoehjibponofaaDoor
