/-
  No cell of these rows narrows 'for every input' (looked for: loops, veiled, ifaces, maps, wideKeys, modest, calm, conditions, laid).
  DERIVED. THE GIVEN ROWS OF THIS SEAT. 18 by the template 'for every input the law returns true; each argument reads behind the call as it read before'; 0 by the template 'total and deterministic' (their statements: YtbnclikjbnfodaaTotals.lean).
  GIVEN WITH THE SEED: the statements are not yours to turn. If you find one false, say at which input.
  Laid BY PROGRAM, IN A SANDBOX (cutbox-rows.mjs): the forced cells as the released guide's own fill.sh prints them over the translation d8f0b3fffa37d3d2… (all of the seat's roots in one cut). By AI agents, Wed Nov 11 2026. No macro, syntax, notation, axiom, sorry.
-/
import Derived.Test.YtbnclikjbnfodaaChecked
import GoSem.Claim
import GoSem.ClaimJoined
import GoSem.ClaimMapViews
import Derived.JoinedTies
import Derived.KernelRfl
namespace Go.Proofs.Ytbnclikjbnfodaa
/- THE CELL 'sum', in the pinned program and in every row, IS THE sha256 OF THE DUMP (.gsa) THAT YtbnclikjbnfodaaProg.lean LOADS. Nothing in Lean hashes anything: it is a label: what it is worth is what the hold of that sum in a sandbox is worth. -/
noncomputable def Try.pinned : Pinned := { name := "ytbnclikjbnfodaa", sum := "d8f0b3fffa37d3d2c0c065fce03ccee32a5a11673e74428141a26af43ddbf54a", checked := Try.checked }
namespace Rows
def none {H : Type} : Left H := { results := [], args := [] }

/-- 'fareboxlaw05.FieldTells': WHATEVER THE INPUT: true; the input reads as it did. -/
def fieldTellsSpec : ChangeSpec := { name := "fieldTells", fn := fun _ => fun
  | [d1, d2, d3] => { results := [.lit (.bool true)], args := [d1, d2, d3] }
  | _ => none }
def fieldTellsRow : OpenClaim := { program := "ytbnclikjbnfodaa", sum := "d8f0b3fffa37d3d2c0c065fce03ccee32a5a11673e74428141a26af43ddbf54a", func := "farebox/fareboxlaw05.FieldTells", spec := "fieldTells", apart := false }
def FieldTellsSaid : Prop := fieldTellsRow.holds Try.pinned (OpenSpec.ofChange fieldTellsSpec)

/-- ITS FALSE NEIGHBOUR: 'it returns false'. Refute it at one input. -/
def fieldTellsWrong : ChangeSpec := { name := "fieldTells", fn := fun _ => fun
  | [d1, d2, d3] => { results := [.lit (.bool false)], args := [d1, d2, d3] }
  | _ => none }
def FieldTellsWrongFalsely : Prop := fieldTellsRow.holds Try.pinned (OpenSpec.ofChange fieldTellsWrong)

/-- 'fareboxlaw05.FieldSums': WHATEVER THE INPUT: true; the input reads as it did. -/
def fieldSumsSpec : ChangeSpec := { name := "fieldSums", fn := fun _ => fun
  | [d1, d2] => { results := [.lit (.bool true)], args := [d1, d2] }
  | _ => none }
def fieldSumsRow : OpenClaim := { program := "ytbnclikjbnfodaa", sum := "d8f0b3fffa37d3d2c0c065fce03ccee32a5a11673e74428141a26af43ddbf54a", func := "farebox/fareboxlaw05.FieldSums", spec := "fieldSums", apart := false }
def FieldSumsSaid : Prop := fieldSumsRow.holds Try.pinned (OpenSpec.ofChange fieldSumsSpec)

/-- ITS FALSE NEIGHBOUR: 'it returns false'. Refute it at one input. -/
def fieldSumsWrong : ChangeSpec := { name := "fieldSums", fn := fun _ => fun
  | [d1, d2] => { results := [.lit (.bool false)], args := [d1, d2] }
  | _ => none }
def FieldSumsWrongFalsely : Prop := fieldSumsRow.holds Try.pinned (OpenSpec.ofChange fieldSumsWrong)

/-- 'fareboxlaw05.FieldBytes': WHATEVER THE INPUT: true; the input reads as it did. -/
def fieldBytesSpec : ChangeSpec := { name := "fieldBytes", fn := fun _ => fun
  | [d1, d2, d3] => { results := [.lit (.bool true)], args := [d1, d2, d3] }
  | _ => none }
def fieldBytesRow : OpenClaim := { program := "ytbnclikjbnfodaa", sum := "d8f0b3fffa37d3d2c0c065fce03ccee32a5a11673e74428141a26af43ddbf54a", func := "farebox/fareboxlaw05.FieldBytes", spec := "fieldBytes", apart := false }
def FieldBytesSaid : Prop := fieldBytesRow.holds Try.pinned (OpenSpec.ofChange fieldBytesSpec)

/-- ITS FALSE NEIGHBOUR: 'it returns false'. Refute it at one input. -/
def fieldBytesWrong : ChangeSpec := { name := "fieldBytes", fn := fun _ => fun
  | [d1, d2, d3] => { results := [.lit (.bool false)], args := [d1, d2, d3] }
  | _ => none }
def FieldBytesWrongFalsely : Prop := fieldBytesRow.holds Try.pinned (OpenSpec.ofChange fieldBytesWrong)

/-- 'fareboxlaw05.FieldProducts': WHATEVER THE INPUT: true; the input reads as it did. -/
def fieldProductsSpec : ChangeSpec := { name := "fieldProducts", fn := fun _ => fun
  | [d1, d2] => { results := [.lit (.bool true)], args := [d1, d2] }
  | _ => none }
def fieldProductsRow : OpenClaim := { program := "ytbnclikjbnfodaa", sum := "d8f0b3fffa37d3d2c0c065fce03ccee32a5a11673e74428141a26af43ddbf54a", func := "farebox/fareboxlaw05.FieldProducts", spec := "fieldProducts", inPlace := ["math/bits.Add64"], apart := false }
def FieldProductsSaid : Prop := fieldProductsRow.holds Try.pinned (OpenSpec.ofChange fieldProductsSpec)

/-- ITS FALSE NEIGHBOUR: 'it returns false'. Refute it at one input. -/
def fieldProductsWrong : ChangeSpec := { name := "fieldProducts", fn := fun _ => fun
  | [d1, d2] => { results := [.lit (.bool false)], args := [d1, d2] }
  | _ => none }
def FieldProductsWrongFalsely : Prop := fieldProductsRow.holds Try.pinned (OpenSpec.ofChange fieldProductsWrong)

/-- 'fareboxlaw05.FieldPowers': WHATEVER THE INPUT: true; the input reads as it did. -/
def fieldPowersSpec : ChangeSpec := { name := "fieldPowers", fn := fun _ => fun
  | [d1, d2] => { results := [.lit (.bool true)], args := [d1, d2] }
  | _ => none }
def fieldPowersRow : OpenClaim := { program := "ytbnclikjbnfodaa", sum := "d8f0b3fffa37d3d2c0c065fce03ccee32a5a11673e74428141a26af43ddbf54a", func := "farebox/fareboxlaw05.FieldPowers", spec := "fieldPowers", inPlace := ["math/bits.Add64"], apart := false }
def FieldPowersSaid : Prop := fieldPowersRow.holds Try.pinned (OpenSpec.ofChange fieldPowersSpec)

/-- ITS FALSE NEIGHBOUR: 'it returns false'. Refute it at one input. -/
def fieldPowersWrong : ChangeSpec := { name := "fieldPowers", fn := fun _ => fun
  | [d1, d2] => { results := [.lit (.bool false)], args := [d1, d2] }
  | _ => none }
def FieldPowersWrongFalsely : Prop := fieldPowersRow.holds Try.pinned (OpenSpec.ofChange fieldPowersWrong)

/-- 'fareboxlaw05.FieldRing': WHATEVER THE INPUT: true; the input reads as it did. -/
def fieldRingSpec : ChangeSpec := { name := "fieldRing", fn := fun _ => fun
  | [d1, d2, d3] => { results := [.lit (.bool true)], args := [d1, d2, d3] }
  | _ => none }
def fieldRingRow : OpenClaim := { program := "ytbnclikjbnfodaa", sum := "d8f0b3fffa37d3d2c0c065fce03ccee32a5a11673e74428141a26af43ddbf54a", func := "farebox/fareboxlaw05.FieldRing", spec := "fieldRing", inPlace := ["math/bits.Add64"], apart := false }
def FieldRingSaid : Prop := fieldRingRow.holds Try.pinned (OpenSpec.ofChange fieldRingSpec)

/-- ITS FALSE NEIGHBOUR: 'it returns false'. Refute it at one input. -/
def fieldRingWrong : ChangeSpec := { name := "fieldRing", fn := fun _ => fun
  | [d1, d2, d3] => { results := [.lit (.bool false)], args := [d1, d2, d3] }
  | _ => none }
def FieldRingWrongFalsely : Prop := fieldRingRow.holds Try.pinned (OpenSpec.ofChange fieldRingWrong)

/-- 'fareboxlaw05.FieldInverse': WHATEVER THE INPUT: true; the input reads as it did. -/
def fieldInverseSpec : ChangeSpec := { name := "fieldInverse", fn := fun _ => fun
  | [d1, d2, d3] => { results := [.lit (.bool true)], args := [d1, d2, d3] }
  | _ => none }
def fieldInverseRow : OpenClaim := { program := "ytbnclikjbnfodaa", sum := "d8f0b3fffa37d3d2c0c065fce03ccee32a5a11673e74428141a26af43ddbf54a", func := "farebox/fareboxlaw05.FieldInverse", spec := "fieldInverse", inPlace := ["math/bits.Add64"], apart := false }
def FieldInverseSaid : Prop := fieldInverseRow.holds Try.pinned (OpenSpec.ofChange fieldInverseSpec)

/-- ITS FALSE NEIGHBOUR: 'it returns false'. Refute it at one input. -/
def fieldInverseWrong : ChangeSpec := { name := "fieldInverse", fn := fun _ => fun
  | [d1, d2, d3] => { results := [.lit (.bool false)], args := [d1, d2, d3] }
  | _ => none }
def FieldInverseWrongFalsely : Prop := fieldInverseRow.holds Try.pinned (OpenSpec.ofChange fieldInverseWrong)

/-- 'fareboxlaw05.FieldRoots': WHATEVER THE INPUT: true; the input reads as it did. -/
def fieldRootsSpec : ChangeSpec := { name := "fieldRoots", fn := fun _ => fun
  | [d1, d2] => { results := [.lit (.bool true)], args := [d1, d2] }
  | _ => none }
def fieldRootsRow : OpenClaim := { program := "ytbnclikjbnfodaa", sum := "d8f0b3fffa37d3d2c0c065fce03ccee32a5a11673e74428141a26af43ddbf54a", func := "farebox/fareboxlaw05.FieldRoots", spec := "fieldRoots", inPlace := ["math/bits.Add64"], apart := false }
def FieldRootsSaid : Prop := fieldRootsRow.holds Try.pinned (OpenSpec.ofChange fieldRootsSpec)

/-- ITS FALSE NEIGHBOUR: 'it returns false'. Refute it at one input. -/
def fieldRootsWrong : ChangeSpec := { name := "fieldRoots", fn := fun _ => fun
  | [d1, d2] => { results := [.lit (.bool false)], args := [d1, d2] }
  | _ => none }
def FieldRootsWrongFalsely : Prop := fieldRootsRow.holds Try.pinned (OpenSpec.ofChange fieldRootsWrong)

/-- 'fareboxlaw05.FieldSquares': WHATEVER THE INPUT: true; the input reads as it did. -/
def fieldSquaresSpec : ChangeSpec := { name := "fieldSquares", fn := fun _ => fun
  | [d1, d2] => { results := [.lit (.bool true)], args := [d1, d2] }
  | _ => none }
def fieldSquaresRow : OpenClaim := { program := "ytbnclikjbnfodaa", sum := "d8f0b3fffa37d3d2c0c065fce03ccee32a5a11673e74428141a26af43ddbf54a", func := "farebox/fareboxlaw05.FieldSquares", spec := "fieldSquares", inPlace := ["math/bits.Add64"], apart := false }
def FieldSquaresSaid : Prop := fieldSquaresRow.holds Try.pinned (OpenSpec.ofChange fieldSquaresSpec)

/-- ITS FALSE NEIGHBOUR: 'it returns false'. Refute it at one input. -/
def fieldSquaresWrong : ChangeSpec := { name := "fieldSquares", fn := fun _ => fun
  | [d1, d2] => { results := [.lit (.bool false)], args := [d1, d2] }
  | _ => none }
def FieldSquaresWrongFalsely : Prop := fieldSquaresRow.holds Try.pinned (OpenSpec.ofChange fieldSquaresWrong)

/-- 'fareboxlaw05.FieldReduced': WHATEVER THE INPUT: true; the input reads as it did. -/
def fieldReducedSpec : ChangeSpec := { name := "fieldReduced", fn := fun _ => fun
  | [d1, d2, d3] => { results := [.lit (.bool true)], args := [d1, d2, d3] }
  | _ => none }
def fieldReducedRow : OpenClaim := { program := "ytbnclikjbnfodaa", sum := "d8f0b3fffa37d3d2c0c065fce03ccee32a5a11673e74428141a26af43ddbf54a", func := "farebox/fareboxlaw05.FieldReduced", spec := "fieldReduced", inPlace := ["math/bits.Add64"], apart := false }
def FieldReducedSaid : Prop := fieldReducedRow.holds Try.pinned (OpenSpec.ofChange fieldReducedSpec)

/-- ITS FALSE NEIGHBOUR: 'it returns false'. Refute it at one input. -/
def fieldReducedWrong : ChangeSpec := { name := "fieldReduced", fn := fun _ => fun
  | [d1, d2, d3] => { results := [.lit (.bool false)], args := [d1, d2, d3] }
  | _ => none }
def FieldReducedWrongFalsely : Prop := fieldReducedRow.holds Try.pinned (OpenSpec.ofChange fieldReducedWrong)

/-- 'fareboxlaw07.CurveDecodes': WHATEVER THE INPUT: true; the input reads as it did. -/
def curveDecodesSpec : ChangeSpec := { name := "curveDecodes", fn := fun _ => fun
  | [d] => { results := [.lit (.bool true)], args := [d] }
  | _ => none }
def curveDecodesRow : OpenClaim := { program := "ytbnclikjbnfodaa", sum := "d8f0b3fffa37d3d2c0c065fce03ccee32a5a11673e74428141a26af43ddbf54a", func := "farebox/fareboxlaw07.CurveDecodes", spec := "curveDecodes", inPlace := ["math/bits.Add64"], apart := false }
def CurveDecodesSaid : Prop := curveDecodesRow.holds Try.pinned (OpenSpec.ofChange curveDecodesSpec)

/-- ITS FALSE NEIGHBOUR: 'it returns false'. Refute it at one input. -/
def curveDecodesWrong : ChangeSpec := { name := "curveDecodes", fn := fun _ => fun
  | [d] => { results := [.lit (.bool false)], args := [d] }
  | _ => none }
def CurveDecodesWrongFalsely : Prop := curveDecodesRow.holds Try.pinned (OpenSpec.ofChange curveDecodesWrong)

/-- 'fareboxlaw07.CurveOrder': WHATEVER THE INPUT: true; the input reads as it did. -/
def curveOrderSpec : ChangeSpec := { name := "curveOrder", fn := fun _ => fun
  | [] => { results := [.lit (.bool true)], args := [] }
  | _ => none }
def curveOrderRow : OpenClaim := { program := "ytbnclikjbnfodaa", sum := "d8f0b3fffa37d3d2c0c065fce03ccee32a5a11673e74428141a26af43ddbf54a", func := "farebox/fareboxlaw07.CurveOrder", spec := "curveOrder", inPlace := ["math/bits.Add64"], apart := false }
def CurveOrderSaid : Prop := curveOrderRow.holds Try.pinned (OpenSpec.ofChange curveOrderSpec)

/-- ITS FALSE NEIGHBOUR: 'it returns false'. Refute it at one input. -/
def curveOrderWrong : ChangeSpec := { name := "curveOrder", fn := fun _ => fun
  | [] => { results := [.lit (.bool false)], args := [] }
  | _ => none }
def CurveOrderWrongFalsely : Prop := curveOrderRow.holds Try.pinned (OpenSpec.ofChange curveOrderWrong)

/-- 'fareboxlaw07.CurveBack': WHATEVER THE INPUT: true; the input reads as it did. -/
def curveBackSpec : ChangeSpec := { name := "curveBack", fn := fun _ => fun
  | [d1, d2] => { results := [.lit (.bool true)], args := [d1, d2] }
  | _ => none }
def curveBackRow : OpenClaim := { program := "ytbnclikjbnfodaa", sum := "d8f0b3fffa37d3d2c0c065fce03ccee32a5a11673e74428141a26af43ddbf54a", func := "farebox/fareboxlaw07.CurveBack", spec := "curveBack", inPlace := ["math/bits.Add64"], apart := false }
def CurveBackSaid : Prop := curveBackRow.holds Try.pinned (OpenSpec.ofChange curveBackSpec)

/-- ITS FALSE NEIGHBOUR: 'it returns false'. Refute it at one input. -/
def curveBackWrong : ChangeSpec := { name := "curveBack", fn := fun _ => fun
  | [d1, d2] => { results := [.lit (.bool false)], args := [d1, d2] }
  | _ => none }
def CurveBackWrongFalsely : Prop := curveBackRow.holds Try.pinned (OpenSpec.ofChange curveBackWrong)

/-- 'fareboxlaw07.CurveLaw': WHATEVER THE INPUT: true; the input reads as it did. -/
def curveLawSpec : ChangeSpec := { name := "curveLaw", fn := fun _ => fun
  | [d1, d2] => { results := [.lit (.bool true)], args := [d1, d2] }
  | _ => none }
def curveLawRow : OpenClaim := { program := "ytbnclikjbnfodaa", sum := "d8f0b3fffa37d3d2c0c065fce03ccee32a5a11673e74428141a26af43ddbf54a", func := "farebox/fareboxlaw07.CurveLaw", spec := "curveLaw", inPlace := ["math/bits.Add64"], apart := false }
def CurveLawSaid : Prop := curveLawRow.holds Try.pinned (OpenSpec.ofChange curveLawSpec)

/-- ITS FALSE NEIGHBOUR: 'it returns false'. Refute it at one input. -/
def curveLawWrong : ChangeSpec := { name := "curveLaw", fn := fun _ => fun
  | [d1, d2] => { results := [.lit (.bool false)], args := [d1, d2] }
  | _ => none }
def CurveLawWrongFalsely : Prop := curveLawRow.holds Try.pinned (OpenSpec.ofChange curveLawWrong)

/-- 'fareboxlaw07.CurveGroup': WHATEVER THE INPUT: true; the input reads as it did. -/
def curveGroupSpec : ChangeSpec := { name := "curveGroup", fn := fun _ => fun
  | [d1, d2, d3] => { results := [.lit (.bool true)], args := [d1, d2, d3] }
  | _ => none }
def curveGroupRow : OpenClaim := { program := "ytbnclikjbnfodaa", sum := "d8f0b3fffa37d3d2c0c065fce03ccee32a5a11673e74428141a26af43ddbf54a", func := "farebox/fareboxlaw07.CurveGroup", spec := "curveGroup", inPlace := ["math/bits.Add64"], apart := false }
def CurveGroupSaid : Prop := curveGroupRow.holds Try.pinned (OpenSpec.ofChange curveGroupSpec)

/-- ITS FALSE NEIGHBOUR: 'it returns false'. Refute it at one input. -/
def curveGroupWrong : ChangeSpec := { name := "curveGroup", fn := fun _ => fun
  | [d1, d2, d3] => { results := [.lit (.bool false)], args := [d1, d2, d3] }
  | _ => none }
def CurveGroupWrongFalsely : Prop := curveGroupRow.holds Try.pinned (OpenSpec.ofChange curveGroupWrong)

/-- 'fareboxlaw07.CurveSteps': WHATEVER THE INPUT: true; the input reads as it did. -/
def curveStepsSpec : ChangeSpec := { name := "curveSteps", fn := fun _ => fun
  | [d1, d2] => { results := [.lit (.bool true)], args := [d1, d2] }
  | _ => none }
def curveStepsRow : OpenClaim := { program := "ytbnclikjbnfodaa", sum := "d8f0b3fffa37d3d2c0c065fce03ccee32a5a11673e74428141a26af43ddbf54a", func := "farebox/fareboxlaw07.CurveSteps", spec := "curveSteps", inPlace := ["math/bits.Add64"], apart := false }
def CurveStepsSaid : Prop := curveStepsRow.holds Try.pinned (OpenSpec.ofChange curveStepsSpec)

/-- ITS FALSE NEIGHBOUR: 'it returns false'. Refute it at one input. -/
def curveStepsWrong : ChangeSpec := { name := "curveSteps", fn := fun _ => fun
  | [d1, d2] => { results := [.lit (.bool false)], args := [d1, d2] }
  | _ => none }
def CurveStepsWrongFalsely : Prop := curveStepsRow.holds Try.pinned (OpenSpec.ofChange curveStepsWrong)

/-- 'fareboxlaw07.CurveMuls': WHATEVER THE INPUT: true; the input reads as it did. -/
def curveMulsSpec : ChangeSpec := { name := "curveMuls", fn := fun _ => fun
  | [d1, d2, d3] => { results := [.lit (.bool true)], args := [d1, d2, d3] }
  | _ => none }
def curveMulsRow : OpenClaim := { program := "ytbnclikjbnfodaa", sum := "d8f0b3fffa37d3d2c0c065fce03ccee32a5a11673e74428141a26af43ddbf54a", func := "farebox/fareboxlaw07.CurveMuls", spec := "curveMuls", inPlace := ["math/bits.Add64"], apart := false }
def CurveMulsSaid : Prop := curveMulsRow.holds Try.pinned (OpenSpec.ofChange curveMulsSpec)

/-- ITS FALSE NEIGHBOUR: 'it returns false'. Refute it at one input. -/
def curveMulsWrong : ChangeSpec := { name := "curveMuls", fn := fun _ => fun
  | [d1, d2, d3] => { results := [.lit (.bool false)], args := [d1, d2, d3] }
  | _ => none }
def CurveMulsWrongFalsely : Prop := curveMulsRow.holds Try.pinned (OpenSpec.ofChange curveMulsWrong)

/-- 'fareboxlaw07.CurveExact': WHATEVER THE INPUT: true; the input reads as it did. -/
def curveExactSpec : ChangeSpec := { name := "curveExact", fn := fun _ => fun
  | [d] => { results := [.lit (.bool true)], args := [d] }
  | _ => none }
def curveExactRow : OpenClaim := { program := "ytbnclikjbnfodaa", sum := "d8f0b3fffa37d3d2c0c065fce03ccee32a5a11673e74428141a26af43ddbf54a", func := "farebox/fareboxlaw07.CurveExact", spec := "curveExact", inPlace := ["math/bits.Add64"], apart := false }
def CurveExactSaid : Prop := curveExactRow.holds Try.pinned (OpenSpec.ofChange curveExactSpec)

/-- ITS FALSE NEIGHBOUR: 'it returns false'. Refute it at one input. -/
def curveExactWrong : ChangeSpec := { name := "curveExact", fn := fun _ => fun
  | [d] => { results := [.lit (.bool false)], args := [d] }
  | _ => none }
def CurveExactWrongFalsely : Prop := curveExactRow.holds Try.pinned (OpenSpec.ofChange curveExactWrong)

/- THE SECOND FORM. 'bulk': how many values and letters a reading holds, each counted each time it is reached (what is shared counts as often as it is met; a slice's spare places count too). A statement '..UptoSaid' is the law's where the arguments, and the package variables that the reading takes, are together of bulk at most 1048576: NARROWER than '..Said'. Prove '..Said' where nothing that the law and all that it calls make is longer than what came in: it says more and counts as full. Else prove '..UptoSaid'. A law counts once. -/
mutual
def uptoBulk {H : Type} : DataW H → Nat
  | .lit (.string bytes) => bytes.length + 1
  | .lit _ => 1
  | .nil => 1
  | .ptr d => uptoBulk d + 1
  | .slice elems spare => uptoBulkAll elems + uptoBulkAll spare + 1
  | .agg parts => uptoBulkAll parts + 1
  | .iface _ d => uptoBulk d + 1
  | .map entries => uptoBulkEntries entries + 1
  | .held _ => 1
def uptoBulkAll {H : Type} : List (DataW H) → Nat
  | [] => 0
  | d :: r => uptoBulk d + uptoBulkAll r
def uptoBulkEntries {H : Type} : List (Lit × DataW H) → Nat
  | [] => 0
  | x :: r => uptoBulkEntry x + uptoBulkEntries r
def uptoBulkEntry {H : Type} : Lit × DataW H → Nat
  | (.string bytes, d) => bytes.length + uptoBulk d + 1
  | (_, d) => uptoBulk d + 1
 end
def uptoSmall : (H : Type) → List (DataW H) → Bool := fun _ ds => decide (uptoBulkAll ds ≤ 1048576)
def OpenSpec.upto (s : _root_.Go.ChangeSpec) : _root_.Go.OpenSpec := { _root_.Go.OpenSpec.ofChange s with cond := some uptoSmall }

/-- 'fareboxlaw05.FieldTells', WHERE WHAT IT READS IS OF BULK AT MOST 1048576: true; the input reads as it did. -/
def fieldTellsUptoRow : OpenClaim := { program := "ytbnclikjbnfodaa", sum := "d8f0b3fffa37d3d2c0c065fce03ccee32a5a11673e74428141a26af43ddbf54a", func := "farebox/fareboxlaw05.FieldTells", spec := "fieldTells", apart := false, narrowed := true }
def FieldTellsUptoSaid : Prop := fieldTellsUptoRow.holds Try.pinned (OpenSpec.upto fieldTellsSpec)

/-- 'fareboxlaw05.FieldSums', WHERE WHAT IT READS IS OF BULK AT MOST 1048576: true; the input reads as it did. -/
def fieldSumsUptoRow : OpenClaim := { program := "ytbnclikjbnfodaa", sum := "d8f0b3fffa37d3d2c0c065fce03ccee32a5a11673e74428141a26af43ddbf54a", func := "farebox/fareboxlaw05.FieldSums", spec := "fieldSums", apart := false, narrowed := true }
def FieldSumsUptoSaid : Prop := fieldSumsUptoRow.holds Try.pinned (OpenSpec.upto fieldSumsSpec)

/-- 'fareboxlaw05.FieldBytes', WHERE WHAT IT READS IS OF BULK AT MOST 1048576: true; the input reads as it did. -/
def fieldBytesUptoRow : OpenClaim := { program := "ytbnclikjbnfodaa", sum := "d8f0b3fffa37d3d2c0c065fce03ccee32a5a11673e74428141a26af43ddbf54a", func := "farebox/fareboxlaw05.FieldBytes", spec := "fieldBytes", apart := false, narrowed := true }
def FieldBytesUptoSaid : Prop := fieldBytesUptoRow.holds Try.pinned (OpenSpec.upto fieldBytesSpec)

/-- 'fareboxlaw05.FieldProducts', WHERE WHAT IT READS IS OF BULK AT MOST 1048576: true; the input reads as it did. -/
def fieldProductsUptoRow : OpenClaim := { program := "ytbnclikjbnfodaa", sum := "d8f0b3fffa37d3d2c0c065fce03ccee32a5a11673e74428141a26af43ddbf54a", func := "farebox/fareboxlaw05.FieldProducts", spec := "fieldProducts", inPlace := ["math/bits.Add64"], apart := false, narrowed := true }
def FieldProductsUptoSaid : Prop := fieldProductsUptoRow.holds Try.pinned (OpenSpec.upto fieldProductsSpec)

/-- 'fareboxlaw05.FieldPowers', WHERE WHAT IT READS IS OF BULK AT MOST 1048576: true; the input reads as it did. -/
def fieldPowersUptoRow : OpenClaim := { program := "ytbnclikjbnfodaa", sum := "d8f0b3fffa37d3d2c0c065fce03ccee32a5a11673e74428141a26af43ddbf54a", func := "farebox/fareboxlaw05.FieldPowers", spec := "fieldPowers", inPlace := ["math/bits.Add64"], apart := false, narrowed := true }
def FieldPowersUptoSaid : Prop := fieldPowersUptoRow.holds Try.pinned (OpenSpec.upto fieldPowersSpec)

/-- 'fareboxlaw05.FieldRing', WHERE WHAT IT READS IS OF BULK AT MOST 1048576: true; the input reads as it did. -/
def fieldRingUptoRow : OpenClaim := { program := "ytbnclikjbnfodaa", sum := "d8f0b3fffa37d3d2c0c065fce03ccee32a5a11673e74428141a26af43ddbf54a", func := "farebox/fareboxlaw05.FieldRing", spec := "fieldRing", inPlace := ["math/bits.Add64"], apart := false, narrowed := true }
def FieldRingUptoSaid : Prop := fieldRingUptoRow.holds Try.pinned (OpenSpec.upto fieldRingSpec)

/-- 'fareboxlaw05.FieldInverse', WHERE WHAT IT READS IS OF BULK AT MOST 1048576: true; the input reads as it did. -/
def fieldInverseUptoRow : OpenClaim := { program := "ytbnclikjbnfodaa", sum := "d8f0b3fffa37d3d2c0c065fce03ccee32a5a11673e74428141a26af43ddbf54a", func := "farebox/fareboxlaw05.FieldInverse", spec := "fieldInverse", inPlace := ["math/bits.Add64"], apart := false, narrowed := true }
def FieldInverseUptoSaid : Prop := fieldInverseUptoRow.holds Try.pinned (OpenSpec.upto fieldInverseSpec)

/-- 'fareboxlaw05.FieldRoots', WHERE WHAT IT READS IS OF BULK AT MOST 1048576: true; the input reads as it did. -/
def fieldRootsUptoRow : OpenClaim := { program := "ytbnclikjbnfodaa", sum := "d8f0b3fffa37d3d2c0c065fce03ccee32a5a11673e74428141a26af43ddbf54a", func := "farebox/fareboxlaw05.FieldRoots", spec := "fieldRoots", inPlace := ["math/bits.Add64"], apart := false, narrowed := true }
def FieldRootsUptoSaid : Prop := fieldRootsUptoRow.holds Try.pinned (OpenSpec.upto fieldRootsSpec)

/-- 'fareboxlaw05.FieldSquares', WHERE WHAT IT READS IS OF BULK AT MOST 1048576: true; the input reads as it did. -/
def fieldSquaresUptoRow : OpenClaim := { program := "ytbnclikjbnfodaa", sum := "d8f0b3fffa37d3d2c0c065fce03ccee32a5a11673e74428141a26af43ddbf54a", func := "farebox/fareboxlaw05.FieldSquares", spec := "fieldSquares", inPlace := ["math/bits.Add64"], apart := false, narrowed := true }
def FieldSquaresUptoSaid : Prop := fieldSquaresUptoRow.holds Try.pinned (OpenSpec.upto fieldSquaresSpec)

/-- 'fareboxlaw05.FieldReduced', WHERE WHAT IT READS IS OF BULK AT MOST 1048576: true; the input reads as it did. -/
def fieldReducedUptoRow : OpenClaim := { program := "ytbnclikjbnfodaa", sum := "d8f0b3fffa37d3d2c0c065fce03ccee32a5a11673e74428141a26af43ddbf54a", func := "farebox/fareboxlaw05.FieldReduced", spec := "fieldReduced", inPlace := ["math/bits.Add64"], apart := false, narrowed := true }
def FieldReducedUptoSaid : Prop := fieldReducedUptoRow.holds Try.pinned (OpenSpec.upto fieldReducedSpec)

/-- 'fareboxlaw07.CurveDecodes', WHERE WHAT IT READS IS OF BULK AT MOST 1048576: true; the input reads as it did. -/
def curveDecodesUptoRow : OpenClaim := { program := "ytbnclikjbnfodaa", sum := "d8f0b3fffa37d3d2c0c065fce03ccee32a5a11673e74428141a26af43ddbf54a", func := "farebox/fareboxlaw07.CurveDecodes", spec := "curveDecodes", inPlace := ["math/bits.Add64"], apart := false, narrowed := true }
def CurveDecodesUptoSaid : Prop := curveDecodesUptoRow.holds Try.pinned (OpenSpec.upto curveDecodesSpec)

/-- 'fareboxlaw07.CurveOrder', WHERE WHAT IT READS IS OF BULK AT MOST 1048576: true; the input reads as it did. -/
def curveOrderUptoRow : OpenClaim := { program := "ytbnclikjbnfodaa", sum := "d8f0b3fffa37d3d2c0c065fce03ccee32a5a11673e74428141a26af43ddbf54a", func := "farebox/fareboxlaw07.CurveOrder", spec := "curveOrder", inPlace := ["math/bits.Add64"], apart := false, narrowed := true }
def CurveOrderUptoSaid : Prop := curveOrderUptoRow.holds Try.pinned (OpenSpec.upto curveOrderSpec)

/-- 'fareboxlaw07.CurveBack', WHERE WHAT IT READS IS OF BULK AT MOST 1048576: true; the input reads as it did. -/
def curveBackUptoRow : OpenClaim := { program := "ytbnclikjbnfodaa", sum := "d8f0b3fffa37d3d2c0c065fce03ccee32a5a11673e74428141a26af43ddbf54a", func := "farebox/fareboxlaw07.CurveBack", spec := "curveBack", inPlace := ["math/bits.Add64"], apart := false, narrowed := true }
def CurveBackUptoSaid : Prop := curveBackUptoRow.holds Try.pinned (OpenSpec.upto curveBackSpec)

/-- 'fareboxlaw07.CurveLaw', WHERE WHAT IT READS IS OF BULK AT MOST 1048576: true; the input reads as it did. -/
def curveLawUptoRow : OpenClaim := { program := "ytbnclikjbnfodaa", sum := "d8f0b3fffa37d3d2c0c065fce03ccee32a5a11673e74428141a26af43ddbf54a", func := "farebox/fareboxlaw07.CurveLaw", spec := "curveLaw", inPlace := ["math/bits.Add64"], apart := false, narrowed := true }
def CurveLawUptoSaid : Prop := curveLawUptoRow.holds Try.pinned (OpenSpec.upto curveLawSpec)

/-- 'fareboxlaw07.CurveGroup', WHERE WHAT IT READS IS OF BULK AT MOST 1048576: true; the input reads as it did. -/
def curveGroupUptoRow : OpenClaim := { program := "ytbnclikjbnfodaa", sum := "d8f0b3fffa37d3d2c0c065fce03ccee32a5a11673e74428141a26af43ddbf54a", func := "farebox/fareboxlaw07.CurveGroup", spec := "curveGroup", inPlace := ["math/bits.Add64"], apart := false, narrowed := true }
def CurveGroupUptoSaid : Prop := curveGroupUptoRow.holds Try.pinned (OpenSpec.upto curveGroupSpec)

/-- 'fareboxlaw07.CurveSteps', WHERE WHAT IT READS IS OF BULK AT MOST 1048576: true; the input reads as it did. -/
def curveStepsUptoRow : OpenClaim := { program := "ytbnclikjbnfodaa", sum := "d8f0b3fffa37d3d2c0c065fce03ccee32a5a11673e74428141a26af43ddbf54a", func := "farebox/fareboxlaw07.CurveSteps", spec := "curveSteps", inPlace := ["math/bits.Add64"], apart := false, narrowed := true }
def CurveStepsUptoSaid : Prop := curveStepsUptoRow.holds Try.pinned (OpenSpec.upto curveStepsSpec)

/-- 'fareboxlaw07.CurveMuls', WHERE WHAT IT READS IS OF BULK AT MOST 1048576: true; the input reads as it did. -/
def curveMulsUptoRow : OpenClaim := { program := "ytbnclikjbnfodaa", sum := "d8f0b3fffa37d3d2c0c065fce03ccee32a5a11673e74428141a26af43ddbf54a", func := "farebox/fareboxlaw07.CurveMuls", spec := "curveMuls", inPlace := ["math/bits.Add64"], apart := false, narrowed := true }
def CurveMulsUptoSaid : Prop := curveMulsUptoRow.holds Try.pinned (OpenSpec.upto curveMulsSpec)

/-- 'fareboxlaw07.CurveExact', WHERE WHAT IT READS IS OF BULK AT MOST 1048576: true; the input reads as it did. -/
def curveExactUptoRow : OpenClaim := { program := "ytbnclikjbnfodaa", sum := "d8f0b3fffa37d3d2c0c065fce03ccee32a5a11673e74428141a26af43ddbf54a", func := "farebox/fareboxlaw07.CurveExact", spec := "curveExact", inPlace := ["math/bits.Add64"], apart := false, narrowed := true }
def CurveExactUptoSaid : Prop := curveExactUptoRow.holds Try.pinned (OpenSpec.upto curveExactSpec)

end Rows
end Go.Proofs.Ytbnclikjbnfodaa
