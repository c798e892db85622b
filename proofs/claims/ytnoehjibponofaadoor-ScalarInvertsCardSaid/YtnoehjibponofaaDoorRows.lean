/-
  NARROWER THAN 'FOR EVERY INPUT', by the rows' own cells (each row's printed sentence says how): ScalarDigits: laid · ScalarReduces: laid · ScalarProducts: laid · ScalarSums: laid · ScalarInverts: laid · ScalarRing: laid · ScalarHalves: laid · ScalarOneForm: laid · ScalarDigitsBack: laid · ScalarField: laid.
  DERIVED. THE GIVEN ROWS OF THIS SEAT. 10 by the template 'for every input the law returns true; each argument reads behind the call as it read before'; 0 by the template 'total and deterministic' (their statements: YtnoehjibponofaaDoorTotals.lean).
  GIVEN WITH THE SEED: the statements are not yours to turn. If you find one false, say at which input.
  Laid BY PROGRAM, IN A SANDBOX (cutbox-rows.mjs): the forced cells as the released guide's own fill.sh prints them over the translation a55197bc7dd73f14… (all of the seat's roots in one cut). By AI agents, Wed Nov 11 2026. No macro, syntax, notation, axiom, sorry.
-/
import Derived.Test.YtnoehjibponofaaDoorChecked
import GoSem.Claim
import GoSem.ClaimJoined
import GoSem.ClaimMapViews
import Derived.JoinedTies
import Derived.KernelRfl
namespace Go.Proofs.YtnoehjibponofaaDoor
/- THE CELL 'sum', in the pinned program and in every row, IS THE sha256 OF THE DUMP (.gsa) THAT YtnoehjibponofaaDoorProg.lean LOADS. Nothing in Lean hashes anything: it is a label: what it is worth is what the hold of that sum in a sandbox is worth. -/
noncomputable def Tryd.pinned : Pinned := { name := "ytnoehjibponofaadoor", sum := "a55197bc7dd73f145dc0b9a2ead320f8a29d02b36d1d0d94c87b4cebc208a0c7", checked := Tryd.checked }
namespace Rows
def none {H : Type} : Left H := { results := [], args := [] }

/- WHAT THE LISTED PACKAGE-LEVEL VARIABLES READ AS WHEN THE CALL BEGINS. Each datum BY PROGRAM (the guide's laid-datum.mjs) off the statement by which the dump's own 'gosem.cut.vars' lays the variable. In a bare row this is a premise. The card (YtnoehjibponofaaDoorCards.lean) ties it to the program's text. -/
def laid_farebox_scalar_order {H : Type} : DataW H := .agg [.lit (.int .u64 6346243789798364141), .lit (.int .u64 1503914060200516822), .lit (.int .u64 0), .lit (.int .u64 1152921504606846976)]
def laid_farebox_fareboxlaw06_one {H : Type} : DataW H := .agg [.lit (.int .u8 1), .lit (.int .u8 0), .lit (.int .u8 0), .lit (.int .u8 0), .lit (.int .u8 0), .lit (.int .u8 0), .lit (.int .u8 0), .lit (.int .u8 0), .lit (.int .u8 0), .lit (.int .u8 0), .lit (.int .u8 0), .lit (.int .u8 0), .lit (.int .u8 0), .lit (.int .u8 0), .lit (.int .u8 0), .lit (.int .u8 0), .lit (.int .u8 0), .lit (.int .u8 0), .lit (.int .u8 0), .lit (.int .u8 0), .lit (.int .u8 0), .lit (.int .u8 0), .lit (.int .u8 0), .lit (.int .u8 0), .lit (.int .u8 0), .lit (.int .u8 0), .lit (.int .u8 0), .lit (.int .u8 0), .lit (.int .u8 0), .lit (.int .u8 0), .lit (.int .u8 0), .lit (.int .u8 0)]
def laid_farebox_fareboxlaw06_two {H : Type} : DataW H := .agg [.lit (.int .u8 2), .lit (.int .u8 0), .lit (.int .u8 0), .lit (.int .u8 0), .lit (.int .u8 0), .lit (.int .u8 0), .lit (.int .u8 0), .lit (.int .u8 0), .lit (.int .u8 0), .lit (.int .u8 0), .lit (.int .u8 0), .lit (.int .u8 0), .lit (.int .u8 0), .lit (.int .u8 0), .lit (.int .u8 0), .lit (.int .u8 0), .lit (.int .u8 0), .lit (.int .u8 0), .lit (.int .u8 0), .lit (.int .u8 0), .lit (.int .u8 0), .lit (.int .u8 0), .lit (.int .u8 0), .lit (.int .u8 0), .lit (.int .u8 0), .lit (.int .u8 0), .lit (.int .u8 0), .lit (.int .u8 0), .lit (.int .u8 0), .lit (.int .u8 0), .lit (.int .u8 0), .lit (.int .u8 0)]
def laid_farebox_fareboxlaw06_order {H : Type} : DataW H := .agg [.lit (.int .u8 237), .lit (.int .u8 211), .lit (.int .u8 245), .lit (.int .u8 92), .lit (.int .u8 26), .lit (.int .u8 99), .lit (.int .u8 18), .lit (.int .u8 88), .lit (.int .u8 214), .lit (.int .u8 156), .lit (.int .u8 247), .lit (.int .u8 162), .lit (.int .u8 222), .lit (.int .u8 249), .lit (.int .u8 222), .lit (.int .u8 20), .lit (.int .u8 0), .lit (.int .u8 0), .lit (.int .u8 0), .lit (.int .u8 0), .lit (.int .u8 0), .lit (.int .u8 0), .lit (.int .u8 0), .lit (.int .u8 0), .lit (.int .u8 0), .lit (.int .u8 0), .lit (.int .u8 0), .lit (.int .u8 0), .lit (.int .u8 0), .lit (.int .u8 0), .lit (.int .u8 0), .lit (.int .u8 16)]

/-- 'fareboxlaw06.ScalarDigits': WHATEVER THE INPUT: true; the input reads as it did. -/
def scalarDigitsSpec : ChangeSpec := { name := "scalarDigits", fn := fun _ => fun
  | [d] => { results := [.lit (.bool true)], args := [d] }
  | _ => none }
def scalarDigitsRow : OpenClaim := { program := "ytnoehjibponofaadoor", sum := "a55197bc7dd73f145dc0b9a2ead320f8a29d02b36d1d0d94c87b4cebc208a0c7", func := "farebox/fareboxlaw06.ScalarDigits", spec := "scalarDigits", inPlace := ["math/bits.Sub64"], named := ["farebox/scalar.order"], apart := false, laid := [("farebox/scalar.order", laid_farebox_scalar_order)] }
def ScalarDigitsSaid : Prop := scalarDigitsRow.holds Tryd.pinned (OpenSpec.ofChange scalarDigitsSpec)

/-- ITS FALSE NEIGHBOUR: 'it returns false'. Refute it at one input. -/
def scalarDigitsWrong : ChangeSpec := { name := "scalarDigits", fn := fun _ => fun
  | [d] => { results := [.lit (.bool false)], args := [d] }
  | _ => none }
def ScalarDigitsWrongFalsely : Prop := scalarDigitsRow.holds Tryd.pinned (OpenSpec.ofChange scalarDigitsWrong)

/-- 'fareboxlaw06.ScalarReduces': WHATEVER THE INPUT: true; the input reads as it did. -/
def scalarReducesSpec : ChangeSpec := { name := "scalarReduces", fn := fun _ => fun
  | [d] => { results := [.lit (.bool true)], args := [d] }
  | _ => none }
def scalarReducesRow : OpenClaim := { program := "ytnoehjibponofaadoor", sum := "a55197bc7dd73f145dc0b9a2ead320f8a29d02b36d1d0d94c87b4cebc208a0c7", func := "farebox/fareboxlaw06.ScalarReduces", spec := "scalarReduces", inPlace := ["math/bits.Add64", "math/bits.Sub64"], named := ["farebox/scalar.order"], apart := false, laid := [("farebox/scalar.order", laid_farebox_scalar_order)] }
def ScalarReducesSaid : Prop := scalarReducesRow.holds Tryd.pinned (OpenSpec.ofChange scalarReducesSpec)

/-- ITS FALSE NEIGHBOUR: 'it returns false'. Refute it at one input. -/
def scalarReducesWrong : ChangeSpec := { name := "scalarReduces", fn := fun _ => fun
  | [d] => { results := [.lit (.bool false)], args := [d] }
  | _ => none }
def ScalarReducesWrongFalsely : Prop := scalarReducesRow.holds Tryd.pinned (OpenSpec.ofChange scalarReducesWrong)

/-- 'fareboxlaw06.ScalarProducts': WHATEVER THE INPUT: true; the input reads as it did. -/
def scalarProductsSpec : ChangeSpec := { name := "scalarProducts", fn := fun _ => fun
  | [d1, d2, d3] => { results := [.lit (.bool true)], args := [d1, d2, d3] }
  | _ => none }
def scalarProductsRow : OpenClaim := { program := "ytnoehjibponofaadoor", sum := "a55197bc7dd73f145dc0b9a2ead320f8a29d02b36d1d0d94c87b4cebc208a0c7", func := "farebox/fareboxlaw06.ScalarProducts", spec := "scalarProducts", inPlace := ["math/bits.Add64", "math/bits.Sub64"], named := ["farebox/scalar.order"], apart := false, laid := [("farebox/scalar.order", laid_farebox_scalar_order)] }
def ScalarProductsSaid : Prop := scalarProductsRow.holds Tryd.pinned (OpenSpec.ofChange scalarProductsSpec)

/-- ITS FALSE NEIGHBOUR: 'it returns false'. Refute it at one input. -/
def scalarProductsWrong : ChangeSpec := { name := "scalarProducts", fn := fun _ => fun
  | [d1, d2, d3] => { results := [.lit (.bool false)], args := [d1, d2, d3] }
  | _ => none }
def ScalarProductsWrongFalsely : Prop := scalarProductsRow.holds Tryd.pinned (OpenSpec.ofChange scalarProductsWrong)

/-- 'fareboxlaw06.ScalarSums': WHATEVER THE INPUT: true; the input reads as it did. -/
def scalarSumsSpec : ChangeSpec := { name := "scalarSums", fn := fun _ => fun
  | [d1, d2] => { results := [.lit (.bool true)], args := [d1, d2] }
  | _ => none }
def scalarSumsRow : OpenClaim := { program := "ytnoehjibponofaadoor", sum := "a55197bc7dd73f145dc0b9a2ead320f8a29d02b36d1d0d94c87b4cebc208a0c7", func := "farebox/fareboxlaw06.ScalarSums", spec := "scalarSums", inPlace := ["math/bits.Add64", "math/bits.Sub64"], named := ["farebox/scalar.order"], apart := false, laid := [("farebox/scalar.order", laid_farebox_scalar_order)] }
def ScalarSumsSaid : Prop := scalarSumsRow.holds Tryd.pinned (OpenSpec.ofChange scalarSumsSpec)

/-- ITS FALSE NEIGHBOUR: 'it returns false'. Refute it at one input. -/
def scalarSumsWrong : ChangeSpec := { name := "scalarSums", fn := fun _ => fun
  | [d1, d2] => { results := [.lit (.bool false)], args := [d1, d2] }
  | _ => none }
def ScalarSumsWrongFalsely : Prop := scalarSumsRow.holds Tryd.pinned (OpenSpec.ofChange scalarSumsWrong)

/-- 'fareboxlaw06.ScalarInverts': WHATEVER THE INPUT: true; the input reads as it did. -/
def scalarInvertsSpec : ChangeSpec := { name := "scalarInverts", fn := fun _ => fun
  | [d] => { results := [.lit (.bool true)], args := [d] }
  | _ => none }
def scalarInvertsRow : OpenClaim := { program := "ytnoehjibponofaadoor", sum := "a55197bc7dd73f145dc0b9a2ead320f8a29d02b36d1d0d94c87b4cebc208a0c7", func := "farebox/fareboxlaw06.ScalarInverts", spec := "scalarInverts", inPlace := ["math/bits.Add64", "math/bits.Sub64"], named := ["farebox/scalar.order"], apart := false, laid := [("farebox/scalar.order", laid_farebox_scalar_order)] }
def ScalarInvertsSaid : Prop := scalarInvertsRow.holds Tryd.pinned (OpenSpec.ofChange scalarInvertsSpec)

/-- ITS FALSE NEIGHBOUR: 'it returns false'. Refute it at one input. -/
def scalarInvertsWrong : ChangeSpec := { name := "scalarInverts", fn := fun _ => fun
  | [d] => { results := [.lit (.bool false)], args := [d] }
  | _ => none }
def ScalarInvertsWrongFalsely : Prop := scalarInvertsRow.holds Tryd.pinned (OpenSpec.ofChange scalarInvertsWrong)

/-- 'fareboxlaw06.ScalarRing': WHATEVER THE INPUT: true; the input reads as it did. -/
def scalarRingSpec : ChangeSpec := { name := "scalarRing", fn := fun _ => fun
  | [d1, d2, d3] => { results := [.lit (.bool true)], args := [d1, d2, d3] }
  | _ => none }
def scalarRingRow : OpenClaim := { program := "ytnoehjibponofaadoor", sum := "a55197bc7dd73f145dc0b9a2ead320f8a29d02b36d1d0d94c87b4cebc208a0c7", func := "farebox/fareboxlaw06.ScalarRing", spec := "scalarRing", inPlace := ["math/bits.Add64", "math/bits.Sub64"], named := ["farebox/fareboxlaw06.one", "farebox/scalar.order", "farebox/fareboxlaw06.two"], apart := false, laid := [("farebox/scalar.order", laid_farebox_scalar_order), ("farebox/fareboxlaw06.one", laid_farebox_fareboxlaw06_one), ("farebox/fareboxlaw06.two", laid_farebox_fareboxlaw06_two)] }
def ScalarRingSaid : Prop := scalarRingRow.holds Tryd.pinned (OpenSpec.ofChange scalarRingSpec)

/-- ITS FALSE NEIGHBOUR: 'it returns false'. Refute it at one input. -/
def scalarRingWrong : ChangeSpec := { name := "scalarRing", fn := fun _ => fun
  | [d1, d2, d3] => { results := [.lit (.bool false)], args := [d1, d2, d3] }
  | _ => none }
def ScalarRingWrongFalsely : Prop := scalarRingRow.holds Tryd.pinned (OpenSpec.ofChange scalarRingWrong)

/-- 'fareboxlaw06.ScalarHalves': WHATEVER THE INPUT: true; the input reads as it did. -/
def scalarHalvesSpec : ChangeSpec := { name := "scalarHalves", fn := fun _ => fun
  | [d1, d2] => { results := [.lit (.bool true)], args := [d1, d2] }
  | _ => none }
def scalarHalvesRow : OpenClaim := { program := "ytnoehjibponofaadoor", sum := "a55197bc7dd73f145dc0b9a2ead320f8a29d02b36d1d0d94c87b4cebc208a0c7", func := "farebox/fareboxlaw06.ScalarHalves", spec := "scalarHalves", inPlace := ["math/bits.Add64", "math/bits.Sub64"], named := ["farebox/fareboxlaw06.one", "farebox/scalar.order", "farebox/fareboxlaw06.two"], apart := false, laid := [("farebox/scalar.order", laid_farebox_scalar_order), ("farebox/fareboxlaw06.one", laid_farebox_fareboxlaw06_one), ("farebox/fareboxlaw06.two", laid_farebox_fareboxlaw06_two)] }
def ScalarHalvesSaid : Prop := scalarHalvesRow.holds Tryd.pinned (OpenSpec.ofChange scalarHalvesSpec)

/-- ITS FALSE NEIGHBOUR: 'it returns false'. Refute it at one input. -/
def scalarHalvesWrong : ChangeSpec := { name := "scalarHalves", fn := fun _ => fun
  | [d1, d2] => { results := [.lit (.bool false)], args := [d1, d2] }
  | _ => none }
def ScalarHalvesWrongFalsely : Prop := scalarHalvesRow.holds Tryd.pinned (OpenSpec.ofChange scalarHalvesWrong)

/-- 'fareboxlaw06.ScalarOneForm': WHATEVER THE INPUT: true; the input reads as it did. -/
def scalarOneFormSpec : ChangeSpec := { name := "scalarOneForm", fn := fun _ => fun
  | [d] => { results := [.lit (.bool true)], args := [d] }
  | _ => none }
def scalarOneFormRow : OpenClaim := { program := "ytnoehjibponofaadoor", sum := "a55197bc7dd73f145dc0b9a2ead320f8a29d02b36d1d0d94c87b4cebc208a0c7", func := "farebox/fareboxlaw06.ScalarOneForm", spec := "scalarOneForm", inPlace := ["math/bits.Add64", "math/bits.Sub64"], named := ["farebox/fareboxlaw06.order", "farebox/scalar.order", "farebox/fareboxlaw06.one", "farebox/fareboxlaw06.two"], apart := false, laid := [("farebox/scalar.order", laid_farebox_scalar_order), ("farebox/fareboxlaw06.one", laid_farebox_fareboxlaw06_one), ("farebox/fareboxlaw06.two", laid_farebox_fareboxlaw06_two), ("farebox/fareboxlaw06.order", laid_farebox_fareboxlaw06_order)] }
def ScalarOneFormSaid : Prop := scalarOneFormRow.holds Tryd.pinned (OpenSpec.ofChange scalarOneFormSpec)

/-- ITS FALSE NEIGHBOUR: 'it returns false'. Refute it at one input. -/
def scalarOneFormWrong : ChangeSpec := { name := "scalarOneForm", fn := fun _ => fun
  | [d] => { results := [.lit (.bool false)], args := [d] }
  | _ => none }
def ScalarOneFormWrongFalsely : Prop := scalarOneFormRow.holds Tryd.pinned (OpenSpec.ofChange scalarOneFormWrong)

/-- 'fareboxlaw06.ScalarDigitsBack': WHATEVER THE INPUT: true; the input reads as it did. -/
def scalarDigitsBackSpec : ChangeSpec := { name := "scalarDigitsBack", fn := fun _ => fun
  | [d] => { results := [.lit (.bool true)], args := [d] }
  | _ => none }
def scalarDigitsBackRow : OpenClaim := { program := "ytnoehjibponofaadoor", sum := "a55197bc7dd73f145dc0b9a2ead320f8a29d02b36d1d0d94c87b4cebc208a0c7", func := "farebox/fareboxlaw06.ScalarDigitsBack", spec := "scalarDigitsBack", inPlace := ["math/bits.Sub64", "math/bits.Add64"], named := ["farebox/scalar.order", "farebox/fareboxlaw06.one", "farebox/fareboxlaw06.two"], apart := false, laid := [("farebox/scalar.order", laid_farebox_scalar_order), ("farebox/fareboxlaw06.one", laid_farebox_fareboxlaw06_one), ("farebox/fareboxlaw06.two", laid_farebox_fareboxlaw06_two)] }
def ScalarDigitsBackSaid : Prop := scalarDigitsBackRow.holds Tryd.pinned (OpenSpec.ofChange scalarDigitsBackSpec)

/-- ITS FALSE NEIGHBOUR: 'it returns false'. Refute it at one input. -/
def scalarDigitsBackWrong : ChangeSpec := { name := "scalarDigitsBack", fn := fun _ => fun
  | [d] => { results := [.lit (.bool false)], args := [d] }
  | _ => none }
def ScalarDigitsBackWrongFalsely : Prop := scalarDigitsBackRow.holds Tryd.pinned (OpenSpec.ofChange scalarDigitsBackWrong)

/-- 'fareboxlaw06.ScalarField': WHATEVER THE INPUT: true; the input reads as it did. -/
def scalarFieldSpec : ChangeSpec := { name := "scalarField", fn := fun _ => fun
  | [d1, d2] => { results := [.lit (.bool true)], args := [d1, d2] }
  | _ => none }
def scalarFieldRow : OpenClaim := { program := "ytnoehjibponofaadoor", sum := "a55197bc7dd73f145dc0b9a2ead320f8a29d02b36d1d0d94c87b4cebc208a0c7", func := "farebox/fareboxlaw06.ScalarField", spec := "scalarField", inPlace := ["math/bits.Add64", "math/bits.Sub64"], named := ["farebox/fareboxlaw06.one", "farebox/scalar.order", "farebox/fareboxlaw06.two"], apart := false, laid := [("farebox/scalar.order", laid_farebox_scalar_order), ("farebox/fareboxlaw06.one", laid_farebox_fareboxlaw06_one), ("farebox/fareboxlaw06.two", laid_farebox_fareboxlaw06_two)] }
def ScalarFieldSaid : Prop := scalarFieldRow.holds Tryd.pinned (OpenSpec.ofChange scalarFieldSpec)

/-- ITS FALSE NEIGHBOUR: 'it returns false'. Refute it at one input. -/
def scalarFieldWrong : ChangeSpec := { name := "scalarField", fn := fun _ => fun
  | [d1, d2] => { results := [.lit (.bool false)], args := [d1, d2] }
  | _ => none }
def ScalarFieldWrongFalsely : Prop := scalarFieldRow.holds Tryd.pinned (OpenSpec.ofChange scalarFieldWrong)

/- THE SECOND FORM. 'bulk': how many values and letters a reading holds, each counted each time it is reached (what is shared counts as often as it is met; a slice's spare places count too). A statement '..UptoSaid' is the law's where the arguments, and the package variables that the reading takes, are together of bulk at most 1048576: NARROWER than '..Said'. Prove '..Said' where nothing that the law and all that it calls make is longer than what came in: it says more and counts as full. Else prove '..UptoSaid'. A law counts once. -/
mutual
def uptoBulk {H : Type} : DataW H → Nat
  | .lit (.string bytes) => bytes.length + 1
  | .lit _ => 1
  | .nil => 1
  | .ptr d => uptoBulk d + 1
  | .slice elems spare => uptoBulkAll elems + uptoBulkAll spare + 1
  | .agg parts => uptoBulkAll parts + 1
  | .iface _ d => uptoBulk d + 1
  | .map entries => uptoBulkEntries entries + 1
  | .held _ => 1
def uptoBulkAll {H : Type} : List (DataW H) → Nat
  | [] => 0
  | d :: r => uptoBulk d + uptoBulkAll r
def uptoBulkEntries {H : Type} : List (Lit × DataW H) → Nat
  | [] => 0
  | x :: r => uptoBulkEntry x + uptoBulkEntries r
def uptoBulkEntry {H : Type} : Lit × DataW H → Nat
  | (.string bytes, d) => bytes.length + uptoBulk d + 1
  | (_, d) => uptoBulk d + 1
 end
def uptoSmall : (H : Type) → List (DataW H) → Bool := fun _ ds => decide (uptoBulkAll ds ≤ 1048576)
def OpenSpec.upto (s : _root_.Go.ChangeSpec) : _root_.Go.OpenSpec := { _root_.Go.OpenSpec.ofChange s with cond := some uptoSmall }

/-- 'fareboxlaw06.ScalarDigits', WHERE WHAT IT READS IS OF BULK AT MOST 1048576: true; the input reads as it did. -/
def scalarDigitsUptoRow : OpenClaim := { program := "ytnoehjibponofaadoor", sum := "a55197bc7dd73f145dc0b9a2ead320f8a29d02b36d1d0d94c87b4cebc208a0c7", func := "farebox/fareboxlaw06.ScalarDigits", spec := "scalarDigits", inPlace := ["math/bits.Sub64"], named := ["farebox/scalar.order"], apart := false, laid := [("farebox/scalar.order", laid_farebox_scalar_order)], narrowed := true }
def ScalarDigitsUptoSaid : Prop := scalarDigitsUptoRow.holds Tryd.pinned (OpenSpec.upto scalarDigitsSpec)

/-- 'fareboxlaw06.ScalarReduces', WHERE WHAT IT READS IS OF BULK AT MOST 1048576: true; the input reads as it did. -/
def scalarReducesUptoRow : OpenClaim := { program := "ytnoehjibponofaadoor", sum := "a55197bc7dd73f145dc0b9a2ead320f8a29d02b36d1d0d94c87b4cebc208a0c7", func := "farebox/fareboxlaw06.ScalarReduces", spec := "scalarReduces", inPlace := ["math/bits.Add64", "math/bits.Sub64"], named := ["farebox/scalar.order"], apart := false, laid := [("farebox/scalar.order", laid_farebox_scalar_order)], narrowed := true }
def ScalarReducesUptoSaid : Prop := scalarReducesUptoRow.holds Tryd.pinned (OpenSpec.upto scalarReducesSpec)

/-- 'fareboxlaw06.ScalarProducts', WHERE WHAT IT READS IS OF BULK AT MOST 1048576: true; the input reads as it did. -/
def scalarProductsUptoRow : OpenClaim := { program := "ytnoehjibponofaadoor", sum := "a55197bc7dd73f145dc0b9a2ead320f8a29d02b36d1d0d94c87b4cebc208a0c7", func := "farebox/fareboxlaw06.ScalarProducts", spec := "scalarProducts", inPlace := ["math/bits.Add64", "math/bits.Sub64"], named := ["farebox/scalar.order"], apart := false, laid := [("farebox/scalar.order", laid_farebox_scalar_order)], narrowed := true }
def ScalarProductsUptoSaid : Prop := scalarProductsUptoRow.holds Tryd.pinned (OpenSpec.upto scalarProductsSpec)

/-- 'fareboxlaw06.ScalarSums', WHERE WHAT IT READS IS OF BULK AT MOST 1048576: true; the input reads as it did. -/
def scalarSumsUptoRow : OpenClaim := { program := "ytnoehjibponofaadoor", sum := "a55197bc7dd73f145dc0b9a2ead320f8a29d02b36d1d0d94c87b4cebc208a0c7", func := "farebox/fareboxlaw06.ScalarSums", spec := "scalarSums", inPlace := ["math/bits.Add64", "math/bits.Sub64"], named := ["farebox/scalar.order"], apart := false, laid := [("farebox/scalar.order", laid_farebox_scalar_order)], narrowed := true }
def ScalarSumsUptoSaid : Prop := scalarSumsUptoRow.holds Tryd.pinned (OpenSpec.upto scalarSumsSpec)

/-- 'fareboxlaw06.ScalarInverts', WHERE WHAT IT READS IS OF BULK AT MOST 1048576: true; the input reads as it did. -/
def scalarInvertsUptoRow : OpenClaim := { program := "ytnoehjibponofaadoor", sum := "a55197bc7dd73f145dc0b9a2ead320f8a29d02b36d1d0d94c87b4cebc208a0c7", func := "farebox/fareboxlaw06.ScalarInverts", spec := "scalarInverts", inPlace := ["math/bits.Add64", "math/bits.Sub64"], named := ["farebox/scalar.order"], apart := false, laid := [("farebox/scalar.order", laid_farebox_scalar_order)], narrowed := true }
def ScalarInvertsUptoSaid : Prop := scalarInvertsUptoRow.holds Tryd.pinned (OpenSpec.upto scalarInvertsSpec)

/-- 'fareboxlaw06.ScalarRing', WHERE WHAT IT READS IS OF BULK AT MOST 1048576: true; the input reads as it did. -/
def scalarRingUptoRow : OpenClaim := { program := "ytnoehjibponofaadoor", sum := "a55197bc7dd73f145dc0b9a2ead320f8a29d02b36d1d0d94c87b4cebc208a0c7", func := "farebox/fareboxlaw06.ScalarRing", spec := "scalarRing", inPlace := ["math/bits.Add64", "math/bits.Sub64"], named := ["farebox/fareboxlaw06.one", "farebox/scalar.order", "farebox/fareboxlaw06.two"], apart := false, laid := [("farebox/scalar.order", laid_farebox_scalar_order), ("farebox/fareboxlaw06.one", laid_farebox_fareboxlaw06_one), ("farebox/fareboxlaw06.two", laid_farebox_fareboxlaw06_two)], narrowed := true }
def ScalarRingUptoSaid : Prop := scalarRingUptoRow.holds Tryd.pinned (OpenSpec.upto scalarRingSpec)

/-- 'fareboxlaw06.ScalarHalves', WHERE WHAT IT READS IS OF BULK AT MOST 1048576: true; the input reads as it did. -/
def scalarHalvesUptoRow : OpenClaim := { program := "ytnoehjibponofaadoor", sum := "a55197bc7dd73f145dc0b9a2ead320f8a29d02b36d1d0d94c87b4cebc208a0c7", func := "farebox/fareboxlaw06.ScalarHalves", spec := "scalarHalves", inPlace := ["math/bits.Add64", "math/bits.Sub64"], named := ["farebox/fareboxlaw06.one", "farebox/scalar.order", "farebox/fareboxlaw06.two"], apart := false, laid := [("farebox/scalar.order", laid_farebox_scalar_order), ("farebox/fareboxlaw06.one", laid_farebox_fareboxlaw06_one), ("farebox/fareboxlaw06.two", laid_farebox_fareboxlaw06_two)], narrowed := true }
def ScalarHalvesUptoSaid : Prop := scalarHalvesUptoRow.holds Tryd.pinned (OpenSpec.upto scalarHalvesSpec)

/-- 'fareboxlaw06.ScalarOneForm', WHERE WHAT IT READS IS OF BULK AT MOST 1048576: true; the input reads as it did. -/
def scalarOneFormUptoRow : OpenClaim := { program := "ytnoehjibponofaadoor", sum := "a55197bc7dd73f145dc0b9a2ead320f8a29d02b36d1d0d94c87b4cebc208a0c7", func := "farebox/fareboxlaw06.ScalarOneForm", spec := "scalarOneForm", inPlace := ["math/bits.Add64", "math/bits.Sub64"], named := ["farebox/fareboxlaw06.order", "farebox/scalar.order", "farebox/fareboxlaw06.one", "farebox/fareboxlaw06.two"], apart := false, laid := [("farebox/scalar.order", laid_farebox_scalar_order), ("farebox/fareboxlaw06.one", laid_farebox_fareboxlaw06_one), ("farebox/fareboxlaw06.two", laid_farebox_fareboxlaw06_two), ("farebox/fareboxlaw06.order", laid_farebox_fareboxlaw06_order)], narrowed := true }
def ScalarOneFormUptoSaid : Prop := scalarOneFormUptoRow.holds Tryd.pinned (OpenSpec.upto scalarOneFormSpec)

/-- 'fareboxlaw06.ScalarDigitsBack', WHERE WHAT IT READS IS OF BULK AT MOST 1048576: true; the input reads as it did. -/
def scalarDigitsBackUptoRow : OpenClaim := { program := "ytnoehjibponofaadoor", sum := "a55197bc7dd73f145dc0b9a2ead320f8a29d02b36d1d0d94c87b4cebc208a0c7", func := "farebox/fareboxlaw06.ScalarDigitsBack", spec := "scalarDigitsBack", inPlace := ["math/bits.Sub64", "math/bits.Add64"], named := ["farebox/scalar.order", "farebox/fareboxlaw06.one", "farebox/fareboxlaw06.two"], apart := false, laid := [("farebox/scalar.order", laid_farebox_scalar_order), ("farebox/fareboxlaw06.one", laid_farebox_fareboxlaw06_one), ("farebox/fareboxlaw06.two", laid_farebox_fareboxlaw06_two)], narrowed := true }
def ScalarDigitsBackUptoSaid : Prop := scalarDigitsBackUptoRow.holds Tryd.pinned (OpenSpec.upto scalarDigitsBackSpec)

/-- 'fareboxlaw06.ScalarField', WHERE WHAT IT READS IS OF BULK AT MOST 1048576: true; the input reads as it did. -/
def scalarFieldUptoRow : OpenClaim := { program := "ytnoehjibponofaadoor", sum := "a55197bc7dd73f145dc0b9a2ead320f8a29d02b36d1d0d94c87b4cebc208a0c7", func := "farebox/fareboxlaw06.ScalarField", spec := "scalarField", inPlace := ["math/bits.Add64", "math/bits.Sub64"], named := ["farebox/fareboxlaw06.one", "farebox/scalar.order", "farebox/fareboxlaw06.two"], apart := false, laid := [("farebox/scalar.order", laid_farebox_scalar_order), ("farebox/fareboxlaw06.one", laid_farebox_fareboxlaw06_one), ("farebox/fareboxlaw06.two", laid_farebox_fareboxlaw06_two)], narrowed := true }
def ScalarFieldUptoSaid : Prop := scalarFieldUptoRow.holds Tryd.pinned (OpenSpec.upto scalarFieldSpec)

end Rows
end Go.Proofs.YtnoehjibponofaaDoor
