/-
  Plain facts on the words that the evaluator writes for unsigned numbers. Conditions: none.
-/
import Derived.Test.YtomipglebaaagaaFvI
namespace Go.Ev

end Go.Ev

namespace Go.Ev
theorem wrap_i64 (a : Int) (h : -9223372036854775808 ≤ a ∧ a < 9223372036854775808) : IntKind.wrap .i64 a = a := IntWalk.i64_in a (by omega)
theorem add1_nat (k : Nat) (hk : k < 2147483648) : addI .i64 (k : Int) 1 = ((k + 1 : Nat) : Int) := by
  unfold addI; rw [wrap_i64 _ (by omega)]; omega
end Go.Ev
