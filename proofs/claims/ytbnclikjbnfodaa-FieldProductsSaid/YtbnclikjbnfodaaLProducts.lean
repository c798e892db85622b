/-
  FieldProducts answers true, of any limbs that uint64 holds. Conditions: none.
-/
import Derived.Test.YtbnclikjbnfodaaMK
namespace Go.Proofs.Ytbnclikjbnfodaa
open Go.Ev Go.Num

theorem products_true {x y : Nat → Int} (hx : U5 x) (hy : U5 y) : lawProducts x y = true := by
  obtain ⟨a1, a2⟩ := of_r hx
  obtain ⟨b1, b2⟩ := of_r hy
  obtain ⟨s1, s2⟩ := mul_v hx hy
  obtain ⟨t1, t2⟩ := mul_r a2 b2
  obtain ⟨s3, s4⟩ := mul_v hx hx
  obtain ⟨t3, t4⟩ := mul_r a2 a2
  have e1 := is_of s2 t2 (by rw [s1, t1, a1, b1, ← Int.mul_emod])
  have e2 := is_of s4 t4 (by rw [s3, t3, a1, ← Int.mul_emod])
  unfold lawProducts squareF
  rw [e1, e2]
  rfl

end Go.Proofs.Ytbnclikjbnfodaa
