/-
  within, counts, Begin, Join of two that go together: contracts. Conditions: none.
-/
import Derived.Test.YtomipglebaaagaaRB
namespace Go.Proofs.Ytomipglebaaagaa
open Go.Ev
set_option linter.unusedVariables false
end Go.Proofs.Ytomipglebaaagaa
