/-
  The ring's law answers true. Conditions: none.
-/
import Derived.Test.YtnoehjibponofaaDoorPO
namespace Go.Proofs.YtnoehjibponofaaDoor
open Go.Ev
theorem eq_st {x y : Nat → Int} (hx : x = stF (num x)) (hy : y = stF (num y)) (h : num x = num y) : eqN 32 x y = true := by
  have : x = y := hx.trans ((congrArg stF h).trans hy.symm)
  rw [this]; exact eqN_refl _ _
theorem st_zero : stF 0 = fun _ => 0 := by funext j; simp [stF]
theorem zero_st : (fun _ => (0 : Int)) = stF (num (fun _ => 0)) := by rw [num_zero, st_zero]
theorem num_one : num oneF = 1 := num_up (by omega) (by omega)
theorem lawRing_true (a b c : Nat → Int) : lawRing a b c = true := by
  have c1 : canO (addO a b) = true := can_mod _ (num_add a b)
  have c2 : canO (mulO a b) = true := can_mod _ (num_mul a b)
  have c3 : canO (negO a) = true := can_mod _ (num_neg a)
  have e1 : eqN 32 (addO a b) (addO b a) = true := eq_st (add_st _ _) (add_st _ _) (by rw [num_add, num_add, Int.add_comm])
  have e2 : eqN 32 (mulO a b) (mulO b a) = true := eq_st (mul_st _ _) (mul_st _ _) (by rw [num_mul, num_mul, Int.mul_comm])
  have e3 : eqN 32 (addO (addO a b) c) (addO a (addO b c)) = true := eq_st (add_st _ _) (add_st _ _) (by simp only [num_add, ea, eb, Int.add_assoc])
  have e4 : eqN 32 (mulO (mulO a b) c) (mulO a (mulO b c)) = true := eq_st (mul_st _ _) (mul_st _ _) (by simp only [num_mul, ma, mb, Int.mul_assoc])
  have e5 : eqN 32 (mulO (addO a b) c) (addO (mulO a c) (mulO b c)) = true := eq_st (mul_st _ _) (add_st _ _) (by simp only [num_mul, num_add, ma, ea, eb, Int.add_mul])
  have e6 : eqN 32 (addO (mulO a b) c) (addO (mulO a b) c) = true := eqN_refl _ _
  have e7 : eqN 32 (addO a (negO a)) (fun _ => 0) = true := eq_st (add_st _ _) zero_st (by rw [num_add, num_neg, eb, num_zero, Int.add_right_neg]; rfl)
  have e8 : eqN 32 (addO a (negO b)) (addO a (negO b)) = true := eqN_refl _ _
  have e9 : eqN 32 (mulO a oneF) (addO a (fun _ => 0)) = true := eq_st (mul_st _ _) (add_st _ _) (by rw [num_mul, num_add, num_one, num_zero, Int.mul_one, Int.add_zero])
  have e10 : eqN 32 (mulO a (fun _ => 0)) (fun _ => 0) = true := eq_st (mul_st _ _) zero_st (by rw [num_mul, num_zero, Int.mul_zero]; rfl)
  simp only [lawRing, c1, c2, c3, e1, e2, e3, e4, e5, e6, e7, e8, e9, e10, Bool.not_true, cond_false, cond_true]
end Go.Proofs.YtnoehjibponofaaDoor
