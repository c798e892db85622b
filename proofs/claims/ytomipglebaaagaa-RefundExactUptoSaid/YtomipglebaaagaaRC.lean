/-
  within, counts, Begin, Join of two that go together: contracts. Conditions: none.
-/
import Derived.Test.YtomipglebaaagaaRB
namespace Go.Proofs.Ytomipglebaaagaa
open Go.Ev
set_option linter.unusedVariables false
noncomputable def wiO : Int → Int → Bool := Classical.choose (hide_ex (fun r g => decide (1 ≤ r ∧ r ≤ 4096 ∧ 1 ≤ g ∧ g ≤ 16)))
noncomputable def begO : Int → Int → Int → Bool := Classical.choose (hide_ex (fun s r g => decide (1 ≤ s ∧ 1 ≤ r ∧ r ≤ 4096 ∧ 1 ≤ g ∧ g ≤ 16)))
theorem begO_eq : begO = (fun s r g => decide (1 ≤ s ∧ 1 ≤ r ∧ r ≤ 4096 ∧ 1 ≤ g ∧ g ≤ 16)) := Classical.choose_spec (hide_ex (fun s r g => decide (1 ≤ s ∧ 1 ≤ r ∧ r ≤ 4096 ∧ 1 ≤ g ∧ g ≤ 16)))
noncomputable def g9 : List V → Option (Bool × V) := fun | [.int .i64 r, .int .i64 g] => some (true, V.bool (wiO r g)) | _ => none
noncomputable def w9 : Orc := ext 9 g9 o13
def g10 : List V → Option (Bool × V) := fun | [] => some (true, V.bool true) | _ => none
noncomputable def c10 : Orc := ext 10 g10 w9
end Go.Proofs.Ytomipglebaaagaa
