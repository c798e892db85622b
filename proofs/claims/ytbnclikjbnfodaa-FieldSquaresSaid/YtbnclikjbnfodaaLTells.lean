/-
  FieldTells answers true, of any limbs that uint64 holds. Conditions: none.
-/
import Derived.Test.YtbnclikjbnfodaaMF
namespace Go.Proofs.Ytbnclikjbnfodaa
open Go.Ev Go.Num

theorem equal_v {x y : Nat → Int} (hx : U5 x) (hy : U5 y) : equalF x y = decide (v5 x % p = v5 y % p) := by
  obtain ⟨a1, a2⟩ := reduce_v hx
  obtain ⟨b1, b2⟩ := reduce_v hy
  show eqN 5 (reduceF x) (reduceF y) = _
  rw [eq5 a2 b2, a1, b1]
theorem isZero_v {x : Nat → Int} (hx : U5 x) : isZeroF x = decide (v5 x % p = 0) := by
  obtain ⟨a1, a2⟩ := reduce_v hx
  show eqN 5 (reduceF x) (fun _ => 0) = _
  rw [eq5 a2 R5_zero, a1, v5_zero]
theorem isOdd_v {x : Nat → Int} (hx : U5 x) : isOddF x = (v5 x % p % 2 == 1) := by
  obtain ⟨a1, a2⟩ := reduce_v hx
  have e : v5 x % p % 2 = reduceF x 0 % 2 := by rw [← a1, v5_eq]; omega
  rw [e, ← and1]; rfl
theorem rIsZero_v {a : Nat → Int} (h : D10 a) : rIsZero a = decide (v10 a = 0) := by
  show eqN 10 a (fun _ => 0) = _
  rw [eq10 h D10_zero, v10_zero]
theorem rIsOdd_v (a : Nat → Int) : rIsOdd a = (v10 a % 2 == 1) := by
  have e : v10 a % 2 = a 0 % 2 := by rw [v10_eq]; omega
  rw [e, ← and1]; rfl

theorem tells_true {x y : Nat → Int} (hx : U5 x) (hy : U5 y) (c : Bool) : lawTells x y c = true := by
  obtain ⟨a1, a2⟩ := of_r hx
  obtain ⟨b1, b2⟩ := of_r hy
  have e1 : (equalF x y == eqN 10 (rOf x) (rOf y)) = true := by rw [equal_v hx hy, eq10 a2 b2, a1, b1]; simp
  have e2 : (isZeroF x == rIsZero (rOf x)) = true := by rw [isZero_v hx, rIsZero_v a2, a1]; simp
  have e3 : (isOddF x == rIsOdd (rOf x)) = true := by rw [isOdd_v hx, rIsOdd_v, a1]; simp
  obtain ⟨r1, r2⟩ := reduce_v hx
  obtain ⟨s1, s2⟩ := reduce_v hy
  unfold lawTells
  rw [e1, e2, e3]
  simp only [Bool.not_true, cond_false, selectF, cond_true]
  cases c with
  | true => rw [cond_true]; exact is_of r2 a2 (by rw [r1, a1])
  | false => rw [cond_false]; exact is_of s2 b2 (by rw [s1, b1])

end Go.Proofs.Ytbnclikjbnfodaa
