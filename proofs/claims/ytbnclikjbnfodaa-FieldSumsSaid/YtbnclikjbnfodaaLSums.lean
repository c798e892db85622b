/-
  FieldSums answers true, of any limbs that uint64 holds. Conditions: none.
-/
import Derived.Test.YtbnclikjbnfodaaWSums
import Derived.Test.YtbnclikjbnfodaaMG
namespace Go.Proofs.Ytbnclikjbnfodaa
open Go.Ev Go.Num

theorem sums_true {x y : Nat → Int} (hx : U5 x) (hy : U5 y) : lawSums x y = true := by
  obtain ⟨a1, a2⟩ := of_r hx
  obtain ⟨b1, b2⟩ := of_r hy
  obtain ⟨s1, s2⟩ := add_v hx hy
  obtain ⟨t1, t2⟩ := add_r a2 b2
  obtain ⟨s3, s4⟩ := sub_v hx hy
  obtain ⟨t3, t4⟩ := sub_r a2 b2
  obtain ⟨s5, s6⟩ := neg_v hx
  obtain ⟨t5, t6⟩ := neg_r a2
  have e1 := is_of s2 t2 (by rw [s1, t1, a1, b1, Int.emod_add_emod, Int.add_emod_emod])
  have e2 := is_of s4 t4 (by rw [s3, t3, a1, b1, Int.emod_sub_emod, Int.sub_emod_emod])
  have e3 := is_of s6 t6 (by rw [s5, t5, a1, neg_mod])
  unfold lawSums
  rw [e1, e2, e3]
  rfl

end Go.Proofs.Ytbnclikjbnfodaa
