/-
  FieldPowers answers true, of any limbs that uint64 holds and any bytes. Conditions: none.
-/
import Derived.Test.YtbnclikjbnfodaaMPow
namespace Go.Proofs.Ytbnclikjbnfodaa
open Go.Ev Go.Num

theorem powers_true {x e : Nat → Int} (hx : U5 x) (he : B32 e) : lawPowers x e = true := by
  obtain ⟨a1, a2⟩ := of_r hx
  obtain ⟨s1, s2⟩ := pow_v hx he
  obtain ⟨t1, t2⟩ := pow_r a2 he
  obtain ⟨s3, s4⟩ := inv_v hx
  obtain ⟨t3, t4⟩ := inv_r a2
  have e1 := is_of s2 t2 (by rw [s1, t1, a1, pow_emod'])
  have e2 := is_of s4 t4 (by rw [s3, t3, a1, pow_emod'])
  unfold lawPowers
  rw [isEO_eq, powFO_eq, rPowO_eq, invertFO_eq, rInvertO_eq, rOfO_eq, e1, e2]
  rfl

end Go.Proofs.Ytbnclikjbnfodaa
