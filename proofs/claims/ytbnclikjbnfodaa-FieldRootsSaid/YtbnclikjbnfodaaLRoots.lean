/-
  FieldRoots answers true. Conditions: none.
-/
import Derived.Test.YtbnclikjbnfodaaMSqrt
namespace Go.Proofs.Ytbnclikjbnfodaa
open Go.Ev Go.Num

theorem roots_true {u y : Nat → Int} (hu : U5 u) (hy : U5 y) : lawRoots u y = true := by
  obtain ⟨a1, a2⟩ := sqrt_v hu hy
  obtain ⟨b1, b2⟩ := sqrt_r (ofI hu) (ofI hy)
  unfold lawRoots
  rw [sqrtFO_eq, rSqrtO_eq, rOfO_eq, isEO_eq, a2, b2, isEI a1 b1 (.refl _)]
  simp
end Go.Proofs.Ytbnclikjbnfodaa
