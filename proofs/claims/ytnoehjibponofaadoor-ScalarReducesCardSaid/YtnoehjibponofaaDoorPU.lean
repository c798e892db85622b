/-
  L is a prime number; the law of the field answers true. Conditions: none.
-/
import Derived.Test.YtnoehjibponofaaDoorPS
namespace Go.Num
theorem pl1 : Pr 2551 := trial (K := 50) (by decide) (by decide) (by decide +kernel)
theorem pl2 : Pr 1224481 := pock' (q := 2551) (R := 480) (g := 2) (K := 0) (by decide) (by decide) pl1 (by decide) (by decide +kernel) (by decide +kernel) (by decide) (by decide)
theorem pl3 : Pr 1257559732178653 := pock' (q := 1224481) (R := 1027014492) (g := 2) (K := 28) (by decide) (by decide) pl2 (by decide) (by decide +kernel) (by decide +kernel) (by decide) (by decide +kernel)
theorem pl4 : Pr 4434155615661930479 := pock' (q := 1257559732178653) (R := 3526) (g := 2) (K := 0) (by decide) (by decide) pl3 (by decide) (by decide +kernel) (by decide +kernel) (by decide) (by decide)
theorem pl5 : Pr 172054593956031949258510691 := pock' (q := 4434155615661930479) (R := 38802110) (g := 2) (K := 0) (by decide) (by decide) pl4 (by decide) (by decide +kernel) (by decide +kernel) (by decide) (by decide)
theorem pl6 : Pr 19757330305831588566944191468367130476339 := pock' (q := 172054593956031949258510691) (R := 114831751082918) (g := 2) (K := 0) (by decide) (by decide) pl5 (by decide) (by decide +kernel) (by decide +kernel) (by decide) (by decide)
theorem pl7 : Pr 276602624281642239937218680557139826668747 := pock' (q := 19757330305831588566944191468367130476339) (R := 14) (g := 2) (K := 0) (by decide) (by decide) pl6 (by decide) (by decide +kernel) (by decide +kernel) (by decide) (by decide)
theorem prL : Pr 7237005577332262213973186563042994240857116359379907606001950938285454250989 := pock' (q := 276602624281642239937218680557139826668747) (R := 26163907866482859529727157400808004) (g := 2) (K := 0) (by decide) (by decide) pl7 (by decide) (by decide +kernel) (by decide +kernel) (by decide) (by decide)
end Go.Num
namespace Go.Proofs.YtnoehjibponofaaDoor
open Go.Ev Go.Num
theorem ferL {X : Int} (hx : X % LL ≠ 0) : X ^ (EE.toNat + 1) % LL = 1 := by
  have h := fermat_int prL (X := X) (by
    have : ((7237005577332262213973186563042994240857116359379907606001950938285454250989 : Nat) : Int) = LL := rfl
    rw [this]; exact hx)
  exact h
theorem num_inv (a : Nat → Int) : num (invO a) = num a ^ EE.toNat % LL := by rw [invO_eq]; exact num_mod _
theorem inv_st (a : Nat → Int) : invO a = stF (num (invO a)) := by rw [num_inv, invO_eq]
theorem inv_mul {a : Nat → Int} (h : num a % LL ≠ 0) : (num a * num (invO a)) % LL = 1 := by
  rw [num_inv, mb, Int.mul_comm, ← Int.pow_succ]
  exact ferL h
theorem inv_nz {a : Nat → Int} (h : num a % LL ≠ 0) : num (invO a) % LL ≠ 0 := by
  intro e
  have h1 := inv_mul h
  rw [← mb, e, Int.mul_zero] at h1
  exact absurd h1 (by decide)
theorem inv_inv {a : Nat → Int} (h : num a % LL ≠ 0) : num (invO (invO a)) % LL = num a % LL := by
  have h1 := inv_mul h
  have h2 := inv_mul (inv_nz h)
  generalize num (invO (invO a)) = z at *
  generalize num (invO a) = y at *
  generalize num a = x at *
  have e1 : (z * (x * y)) % LL = z % LL := by rw [← mb, h1, Int.mul_one]
  have e2 : (x * (y * z)) % LL = x % LL := by rw [← mb, h2, Int.mul_one]
  rw [← e1, ← e2]
  congr 1
  rw [Int.mul_comm z, Int.mul_assoc]
theorem add0 (a : Nat → Int) : num (addO a fun _ => 0) = num a % LL := by rw [num_add, num_zero, Int.add_zero]
theorem lawField_true (a b : Nat → Int) : lawField a b = true := by
  have e0 : (eqN 32 (addO a fun _ => 0) fun _ => 0) = (num a % LL == 0) := by
    rw [Bool.eq_iff_iff, beq_iff_eq]
    constructor
    · intro e
      have := num_congr (eqN_at e)
      rwa [add0, num_zero] at this
    · intro e
      exact eq_st (add_st _ _) zero_st (by rw [add0, num_zero, e])
  have e1 : (invB a == !(eqN 32 (addO a fun _ => 0) fun _ => 0)) = true := by rw [e0, invB_eq]; simp
  by_cases h : num a % LL = 0
  · have hb : invB a = false := by rw [invB_eq]; simp [h]
    have e2 : eqN 32 (invO a) (fun _ => 0) = true := eq_st (inv_st _) zero_st (by
      rw [num_inv, pow_mod, h, num_zero, Int.zero_pow (by decide)]; rfl)
    unfold lawField
    rw [e1]
    simp only [e2, hb, Bool.not_true, Bool.not_false, cond_true, cond_false]
  · have hb : invB a = true := by rw [invB_eq]; simp [h]
    have hb2 : invB (invO a) = true := by rw [invB_eq]; simp [inv_nz h]
    have e3 : canO (invO a) = true := can_mod _ (num_inv a)
    have e4 : eqN 32 (mulO a (invO a)) oneF = true := eq_st (mul_st _ _) (by rw [num_one]; funext j; exact (st_small (by omega) (by omega) j).symm) (by rw [num_mul, inv_mul h, num_one])
    have e5 : eqN 32 (invO (invO a)) (addO a fun _ => 0) = true := eq_st (inv_st _) (add_st _ _) (by
      rw [add0, ← inv_inv h, num_inv, mm])
    have e6 : eqN 32 (mulO (mulO b a) (invO a)) (addO b fun _ => 0) = true := eq_st (mul_st _ _) (add_st _ _) (by
      rw [add0, num_mul, num_mul, ma, Int.mul_assoc, ← mb, inv_mul h, Int.mul_one])
    unfold lawField
    rw [e1]
    simp only [e3, e4, e5, e6, hb, hb2, Bool.not_true, cond_true, cond_false]
end Go.Proofs.YtnoehjibponofaaDoor
