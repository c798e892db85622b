/-
  No cell of these rows narrows 'for every input' (looked for: loops, veiled, ifaces, maps, wideKeys, modest, calm, conditions, laid).
  DERIVED. THE GIVEN ROWS OF THIS SEAT. 6 by the template 'for every input the law returns true; each argument reads behind the call as it read before'; 0 by the template 'total and deterministic' (their statements: YtomipglebaaagaaTotals.lean).
  GIVEN WITH THE SEED: the statements are not yours to turn. If you find one false, say at which input.
  Laid BY PROGRAM, IN A SANDBOX (cutbox-rows.mjs): the forced cells as the released guide's own fill.sh prints them over the translation 384d07fac614c9ca… (all of the seat's roots in one cut). By AI agents, Wed Nov 11 2026. No macro, syntax, notation, axiom, sorry.
-/
import Derived.Test.YtomipglebaaagaaChecked
import GoSem.Claim
import GoSem.ClaimJoined
import GoSem.ClaimMapViews
import Derived.JoinedTies
import Derived.KernelRfl
namespace Go.Proofs.Ytomipglebaaagaa
/- THE CELL 'sum', in the pinned program and in every row, IS THE sha256 OF THE DUMP (.gsa) THAT YtomipglebaaagaaProg.lean LOADS. Nothing in Lean hashes anything: it is a label: what it is worth is what the hold of that sum in a sandbox is worth. -/
noncomputable def Try.pinned : Pinned := { name := "ytomipglebaaagaa", sum := "384d07fac614c9ca05c953d0b286d07a3825a1810588c27257fa7e0d4d628a95", checked := Try.checked }
namespace Rows
def none {H : Type} : Left H := { results := [], args := [] }

/-- 'fareboxlaw21.RefundPays': WHATEVER THE INPUT: true; the input reads as it did. -/
def refundPaysSpec : ChangeSpec := { name := "refundPays", fn := fun _ => fun
  | [d1, d2, d3] => { results := [.lit (.bool true)], args := [d1, d2, d3] }
  | _ => none }
def refundPaysRow : OpenClaim := { program := "ytomipglebaaagaa", sum := "384d07fac614c9ca05c953d0b286d07a3825a1810588c27257fa7e0d4d628a95", func := "farebox/fareboxlaw21.RefundPays", spec := "refundPays", apart := false }
def RefundPaysSaid : Prop := refundPaysRow.holds Try.pinned (OpenSpec.ofChange refundPaysSpec)

/-- ITS FALSE NEIGHBOUR: 'it returns false'. Refute it at one input. -/
def refundPaysWrong : ChangeSpec := { name := "refundPays", fn := fun _ => fun
  | [d1, d2, d3] => { results := [.lit (.bool false)], args := [d1, d2, d3] }
  | _ => none }
def RefundPaysWrongFalsely : Prop := refundPaysRow.holds Try.pinned (OpenSpec.ofChange refundPaysWrong)

/-- 'fareboxlaw21.RefundAny': WHATEVER THE INPUT: true; the input reads as it did. -/
def refundAnySpec : ChangeSpec := { name := "refundAny", fn := fun _ => fun
  | [d1, d2, d3, d4] => { results := [.lit (.bool true)], args := [d1, d2, d3, d4] }
  | _ => none }
def refundAnyRow : OpenClaim := { program := "ytomipglebaaagaa", sum := "384d07fac614c9ca05c953d0b286d07a3825a1810588c27257fa7e0d4d628a95", func := "farebox/fareboxlaw21.RefundAny", spec := "refundAny", apart := false }
def RefundAnySaid : Prop := refundAnyRow.holds Try.pinned (OpenSpec.ofChange refundAnySpec)

/-- ITS FALSE NEIGHBOUR: 'it returns false'. Refute it at one input. -/
def refundAnyWrong : ChangeSpec := { name := "refundAny", fn := fun _ => fun
  | [d1, d2, d3, d4] => { results := [.lit (.bool false)], args := [d1, d2, d3, d4] }
  | _ => none }
def RefundAnyWrongFalsely : Prop := refundAnyRow.holds Try.pinned (OpenSpec.ofChange refundAnyWrong)

/-- 'fareboxlaw21.RefundExact': WHATEVER THE INPUT: true; the input reads as it did. -/
def refundExactSpec : ChangeSpec := { name := "refundExact", fn := fun _ => fun
  | [d1, d2, d3, d4] => { results := [.lit (.bool true)], args := [d1, d2, d3, d4] }
  | _ => none }
def refundExactRow : OpenClaim := { program := "ytomipglebaaagaa", sum := "384d07fac614c9ca05c953d0b286d07a3825a1810588c27257fa7e0d4d628a95", func := "farebox/fareboxlaw21.RefundExact", spec := "refundExact", apart := false }
def RefundExactSaid : Prop := refundExactRow.holds Try.pinned (OpenSpec.ofChange refundExactSpec)

/-- ITS FALSE NEIGHBOUR: 'it returns false'. Refute it at one input. -/
def refundExactWrong : ChangeSpec := { name := "refundExact", fn := fun _ => fun
  | [d1, d2, d3, d4] => { results := [.lit (.bool false)], args := [d1, d2, d3, d4] }
  | _ => none }
def RefundExactWrongFalsely : Prop := refundExactRow.holds Try.pinned (OpenSpec.ofChange refundExactWrong)

/-- 'fareboxlaw21.RefundLattice': WHATEVER THE INPUT: true; the input reads as it did. -/
def refundLatticeSpec : ChangeSpec := { name := "refundLattice", fn := fun _ => fun
  | [d1, d2, d3, d4, d5] => { results := [.lit (.bool true)], args := [d1, d2, d3, d4, d5] }
  | _ => none }
def refundLatticeRow : OpenClaim := { program := "ytomipglebaaagaa", sum := "384d07fac614c9ca05c953d0b286d07a3825a1810588c27257fa7e0d4d628a95", func := "farebox/fareboxlaw21.RefundLattice", spec := "refundLattice", apart := false }
def RefundLatticeSaid : Prop := refundLatticeRow.holds Try.pinned (OpenSpec.ofChange refundLatticeSpec)

/-- ITS FALSE NEIGHBOUR: 'it returns false'. Refute it at one input. -/
def refundLatticeWrong : ChangeSpec := { name := "refundLattice", fn := fun _ => fun
  | [d1, d2, d3, d4, d5] => { results := [.lit (.bool false)], args := [d1, d2, d3, d4, d5] }
  | _ => none }
def RefundLatticeWrongFalsely : Prop := refundLatticeRow.holds Try.pinned (OpenSpec.ofChange refundLatticeWrong)

/-- 'fareboxlaw21.RefundOrderless': WHATEVER THE INPUT: true; the input reads as it did. -/
def refundOrderlessSpec : ChangeSpec := { name := "refundOrderless", fn := fun _ => fun
  | [d1, d2, d3, d4, d5] => { results := [.lit (.bool true)], args := [d1, d2, d3, d4, d5] }
  | _ => none }
def refundOrderlessRow : OpenClaim := { program := "ytomipglebaaagaa", sum := "384d07fac614c9ca05c953d0b286d07a3825a1810588c27257fa7e0d4d628a95", func := "farebox/fareboxlaw21.RefundOrderless", spec := "refundOrderless", apart := false }
def RefundOrderlessSaid : Prop := refundOrderlessRow.holds Try.pinned (OpenSpec.ofChange refundOrderlessSpec)

/-- ITS FALSE NEIGHBOUR: 'it returns false'. Refute it at one input. -/
def refundOrderlessWrong : ChangeSpec := { name := "refundOrderless", fn := fun _ => fun
  | [d1, d2, d3, d4, d5] => { results := [.lit (.bool false)], args := [d1, d2, d3, d4, d5] }
  | _ => none }
def RefundOrderlessWrongFalsely : Prop := refundOrderlessRow.holds Try.pinned (OpenSpec.ofChange refundOrderlessWrong)

/-- 'fareboxlaw21.RefundApart': WHATEVER THE INPUT: true; the input reads as it did. -/
def refundApartSpec : ChangeSpec := { name := "refundApart", fn := fun _ => fun
  | [d1, d2, d3, d4, d5] => { results := [.lit (.bool true)], args := [d1, d2, d3, d4, d5] }
  | _ => none }
def refundApartRow : OpenClaim := { program := "ytomipglebaaagaa", sum := "384d07fac614c9ca05c953d0b286d07a3825a1810588c27257fa7e0d4d628a95", func := "farebox/fareboxlaw21.RefundApart", spec := "refundApart", apart := false }
def RefundApartSaid : Prop := refundApartRow.holds Try.pinned (OpenSpec.ofChange refundApartSpec)

/-- ITS FALSE NEIGHBOUR: 'it returns false'. Refute it at one input. -/
def refundApartWrong : ChangeSpec := { name := "refundApart", fn := fun _ => fun
  | [d1, d2, d3, d4, d5] => { results := [.lit (.bool false)], args := [d1, d2, d3, d4, d5] }
  | _ => none }
def RefundApartWrongFalsely : Prop := refundApartRow.holds Try.pinned (OpenSpec.ofChange refundApartWrong)

/- THE SECOND FORM. 'bulk': how many values and letters a reading holds, each counted each time it is reached (what is shared counts as often as it is met; a slice's spare places count too). A statement '..UptoSaid' is the law's where the arguments, and the package variables that the reading takes, are together of bulk at most 1048576: NARROWER than '..Said'. Prove '..Said' where nothing that the law and all that it calls make is longer than what came in: it says more and counts as full. Else prove '..UptoSaid'. A law counts once. -/
mutual
def uptoBulk {H : Type} : DataW H → Nat
  | .lit (.string bytes) => bytes.length + 1
  | .lit _ => 1
  | .nil => 1
  | .ptr d => uptoBulk d + 1
  | .slice elems spare => uptoBulkAll elems + uptoBulkAll spare + 1
  | .agg parts => uptoBulkAll parts + 1
  | .iface _ d => uptoBulk d + 1
  | .map entries => uptoBulkEntries entries + 1
  | .held _ => 1
def uptoBulkAll {H : Type} : List (DataW H) → Nat
  | [] => 0
  | d :: r => uptoBulk d + uptoBulkAll r
def uptoBulkEntries {H : Type} : List (Lit × DataW H) → Nat
  | [] => 0
  | x :: r => uptoBulkEntry x + uptoBulkEntries r
def uptoBulkEntry {H : Type} : Lit × DataW H → Nat
  | (.string bytes, d) => bytes.length + uptoBulk d + 1
  | (_, d) => uptoBulk d + 1
 end
def uptoSmall : (H : Type) → List (DataW H) → Bool := fun _ ds => decide (uptoBulkAll ds ≤ 1048576)
def OpenSpec.upto (s : _root_.Go.ChangeSpec) : _root_.Go.OpenSpec := { _root_.Go.OpenSpec.ofChange s with cond := some uptoSmall }

/-- 'fareboxlaw21.RefundPays', WHERE WHAT IT READS IS OF BULK AT MOST 1048576: true; the input reads as it did. -/
def refundPaysUptoRow : OpenClaim := { program := "ytomipglebaaagaa", sum := "384d07fac614c9ca05c953d0b286d07a3825a1810588c27257fa7e0d4d628a95", func := "farebox/fareboxlaw21.RefundPays", spec := "refundPays", apart := false, narrowed := true }
def RefundPaysUptoSaid : Prop := refundPaysUptoRow.holds Try.pinned (OpenSpec.upto refundPaysSpec)

/-- 'fareboxlaw21.RefundAny', WHERE WHAT IT READS IS OF BULK AT MOST 1048576: true; the input reads as it did. -/
def refundAnyUptoRow : OpenClaim := { program := "ytomipglebaaagaa", sum := "384d07fac614c9ca05c953d0b286d07a3825a1810588c27257fa7e0d4d628a95", func := "farebox/fareboxlaw21.RefundAny", spec := "refundAny", apart := false, narrowed := true }
def RefundAnyUptoSaid : Prop := refundAnyUptoRow.holds Try.pinned (OpenSpec.upto refundAnySpec)

/-- 'fareboxlaw21.RefundExact', WHERE WHAT IT READS IS OF BULK AT MOST 1048576: true; the input reads as it did. -/
def refundExactUptoRow : OpenClaim := { program := "ytomipglebaaagaa", sum := "384d07fac614c9ca05c953d0b286d07a3825a1810588c27257fa7e0d4d628a95", func := "farebox/fareboxlaw21.RefundExact", spec := "refundExact", apart := false, narrowed := true }
def RefundExactUptoSaid : Prop := refundExactUptoRow.holds Try.pinned (OpenSpec.upto refundExactSpec)

/-- 'fareboxlaw21.RefundLattice', WHERE WHAT IT READS IS OF BULK AT MOST 1048576: true; the input reads as it did. -/
def refundLatticeUptoRow : OpenClaim := { program := "ytomipglebaaagaa", sum := "384d07fac614c9ca05c953d0b286d07a3825a1810588c27257fa7e0d4d628a95", func := "farebox/fareboxlaw21.RefundLattice", spec := "refundLattice", apart := false, narrowed := true }
def RefundLatticeUptoSaid : Prop := refundLatticeUptoRow.holds Try.pinned (OpenSpec.upto refundLatticeSpec)

/-- 'fareboxlaw21.RefundOrderless', WHERE WHAT IT READS IS OF BULK AT MOST 1048576: true; the input reads as it did. -/
def refundOrderlessUptoRow : OpenClaim := { program := "ytomipglebaaagaa", sum := "384d07fac614c9ca05c953d0b286d07a3825a1810588c27257fa7e0d4d628a95", func := "farebox/fareboxlaw21.RefundOrderless", spec := "refundOrderless", apart := false, narrowed := true }
def RefundOrderlessUptoSaid : Prop := refundOrderlessUptoRow.holds Try.pinned (OpenSpec.upto refundOrderlessSpec)

/-- 'fareboxlaw21.RefundApart', WHERE WHAT IT READS IS OF BULK AT MOST 1048576: true; the input reads as it did. -/
def refundApartUptoRow : OpenClaim := { program := "ytomipglebaaagaa", sum := "384d07fac614c9ca05c953d0b286d07a3825a1810588c27257fa7e0d4d628a95", func := "farebox/fareboxlaw21.RefundApart", spec := "refundApart", apart := false, narrowed := true }
def RefundApartUptoSaid : Prop := refundApartUptoRow.holds Try.pinned (OpenSpec.upto refundApartSpec)

end Rows
end Go.Proofs.Ytomipglebaaagaa
