/-
  Powers, bit by bit from the highest on. Conditions: none.
-/
import Derived.Test.YtbnclikjbnfodaaWPowers
import Derived.Test.YtbnclikjbnfodaaMK
import Derived.Test.YtbnclikjbnfodaaMI
namespace Go.Proofs.Ytbnclikjbnfodaa
open Go.Ev Go.Num

theorem pow_emod' (a : Int) (n : Nat) : (a % p) ^ n % p = a ^ n % p := by
  induction n with
  | zero => simp
  | succ n ih => rw [Int.pow_succ, Int.pow_succ, Int.mul_emod, ih, Int.emod_emod_of_dvd _ (Int.dvd_refl p), ← Int.mul_emod]
theorem pw_sq (X : Int) (m : Nat) : (X ^ m % p * (X ^ m % p)) % p = X ^ (2 * m) % p := by
  rw [← Int.mul_emod, ← Int.pow_add, show m + m = 2 * m by omega]
theorem pw_mul (X : Int) (n : Nat) : (X ^ n % p * X) % p = X ^ (n + 1) % p := by
  rw [Int.pow_succ, Int.mul_emod, Int.emod_emod_of_dvd _ (Int.dvd_refl p), ← Int.mul_emod]

theorem pow_bit {e : Nat → Int} (he : B32 e) {i : Nat} (hi : i < 256) : andI .u8 (shrI .u8 (e (0 + (Int.toNat (quoI .i64 (i : Int) 8) * 1))) (remI (i : Int) 8)) 1 = vb e / 2 ^ i % 2 := by
  rw [show quoI .i64 (i : Int) 8 = ((i / 8 : Nat) : Int) from quo_nat i 8 (by omega), show remI (i : Int) 8 = ((i % 8 : Nat) : Int) from rem_nat i 8]
  simp only [Int.toNat_natCast, Nat.mul_one, Nat.zero_add]
  rw [and8_1, shrU8 _ _ (by omega)]
  have := digit_bit (k := 8) (a := e) (n := 32) (m := i / 8) (r := i % 8) (fun j hj => by rw [← e8]; exact he j hj) (by omega) (by omega)
  rw [Nat.div_add_mod, ← e8] at this
  exact this.symm

theorem vb_bound {e : Nat → Int} (he : B32 e) : 0 ≤ vb e ∧ vb e < 2 ^ 256 := by
  have h := dv_bound (B := 256) (by omega) he
  exact ⟨h.1, h.2⟩

/-- The exponent behind one bit more. -/
theorem exp_step {E : Int} (h0 : 0 ≤ E) (i : Nat) : (E / 2 ^ i).toNat = 2 * (E / 2 ^ (i + 1)).toNat + (E / 2 ^ i % 2).toNat := by
  have h1 : E / 2 ^ (i + 1) = E / 2 ^ i / 2 := by rw [Int.pow_succ, Int.ediv_ediv_of_nonneg (Int.le_of_lt (pow_pos' (by omega) i))]
  have h2 : 0 ≤ E / 2 ^ i := Int.ediv_nonneg h0 (Int.le_of_lt (pow_pos' (by omega) i))
  rw [h1]; omega

theorem powF_v {x e : Nat → Int} (hx : U5 x) (he : B32 e) : ∀ k, k ≤ 256 → v5 (powF_it x e k) = v5 x ^ (vb e / 2 ^ (256 - k)).toNat % p ∧ R5 (powF_it x e k)
  | 0, _ => by
    obtain ⟨b0, b1⟩ := vb_bound he
    rw [show 256 - 0 = 256 from rfl, Int.ediv_eq_zero_of_lt b0 b1]
    obtain ⟨s1, s2⟩ := small_v (n := 1) (by omega) (by omega)
    exact ⟨by show v5 (smallF 1) = _; rw [s1, show Int.toNat 0 = 0 from rfl, Int.pow_zero]; decide, s2⟩
  | k + 1, hk => by
    obtain ⟨i1, i2⟩ := powF_v hx he k (by omega)
    have hs := exp_step (vb_bound he).1 (256 - 1 - k)
    rw [show 256 - 1 - k + 1 = 256 - k by omega] at hs
    have hb := pow_bit he (show 256 - 1 - k < 256 by omega)
    rw [show 256 - (k + 1) = 256 - 1 - k by omega]
    obtain ⟨q1, q2⟩ := mul_v i2.u i2.u
    rw [i1, pw_sq] at q1
    have ht : vb e / 2 ^ (256 - 1 - k) % 2 = 0 ∨ vb e / 2 ^ (256 - 1 - k) % 2 = 1 := by omega
    show v5 (powF_st x e _ _) = _ ∧ R5 (powF_st x e _ _)
    unfold powF_st squareF
    rw [hb]
    rcases ht with ht | ht
    · rw [ht] at hs ⊢
      rw [show ((0 : Int) == 1) = false from rfl, cond_false, hs]
      exact ⟨q1, q2⟩
    · rw [ht] at hs ⊢
      obtain ⟨r1, r2⟩ := mul_v q2.u hx
      rw [q1, pw_mul] at r1
      rw [show ((1 : Int) == 1) = true from rfl, cond_true, hs]
      exact ⟨r1, r2⟩

theorem rPow_v {x e : Nat → Int} (hx : D10 x) (he : B32 e) : ∀ k, k ≤ 256 → v10 (rPow_it x e k) = v10 x ^ (vb e / 2 ^ (256 - k)).toNat % p ∧ D10 (rPow_it x e k)
  | 0, _ => by
    obtain ⟨b0, b1⟩ := vb_bound he
    rw [show 256 - 0 = 256 from rfl, Int.ediv_eq_zero_of_lt b0 b1]
    obtain ⟨s1, s2⟩ := small_r (n := 1) (by omega) (by omega)
    exact ⟨by show v10 (rSmall 1) = _; rw [s1, show Int.toNat 0 = 0 from rfl, Int.pow_zero]; decide, s2⟩
  | k + 1, hk => by
    obtain ⟨i1, i2⟩ := rPow_v hx he k (by omega)
    have hs := exp_step (vb_bound he).1 (256 - 1 - k)
    rw [show 256 - 1 - k + 1 = 256 - k by omega] at hs
    have hb := pow_bit he (show 256 - 1 - k < 256 by omega)
    rw [show 256 - (k + 1) = 256 - 1 - k by omega]
    obtain ⟨q1, q2⟩ := mul_r i2 i2
    rw [i1, pw_sq] at q1
    have ht : vb e / 2 ^ (256 - 1 - k) % 2 = 0 ∨ vb e / 2 ^ (256 - 1 - k) % 2 = 1 := by omega
    show v10 (rPow_st x e _ _) = _ ∧ D10 (rPow_st x e _ _)
    unfold rPow_st
    rw [hb]
    rcases ht with ht | ht
    · rw [ht] at hs ⊢
      rw [show ((0 : Int) == 1) = false from rfl, cond_false, hs]
      exact ⟨q1, q2⟩
    · rw [ht] at hs ⊢
      obtain ⟨r1, r2⟩ := mul_r q2 hx
      rw [q1, pw_mul] at r1
      rw [show ((1 : Int) == 1) = true from rfl, cond_true, hs]
      exact ⟨r1, r2⟩

theorem pow_v {x e : Nat → Int} (hx : U5 x) (he : B32 e) : v5 (powF x e) = v5 x ^ (vb e).toNat % p ∧ R5 (powF x e) := by
  have h := powF_v hx he 256 (by omega)
  rw [Nat.sub_self, Int.pow_zero, Int.ediv_one] at h
  exact h
theorem pow_r {x e : Nat → Int} (hx : D10 x) (he : B32 e) : v10 (rPow x e) = v10 x ^ (vb e).toNat % p ∧ D10 (rPow x e) := by
  have h := rPow_v hx he 256 (by omega)
  rw [Nat.sub_self, Int.pow_zero, Int.ediv_one] at h
  exact h

theorem powerInv : B32 (power255 235 127) := by unfold B32; decide
theorem powerInv_v : vb (power255 235 127) = p - 2 := by decide
theorem rPower_eq (l h : Int) : rPower l h = power255 l h := rfl
theorem inv_v {x : Nat → Int} (hx : U5 x) : v5 (invertF x) = v5 x ^ (p - 2).toNat % p ∧ R5 (invertF x) := by
  have h := pow_v hx powerInv
  rw [powerInv_v] at h
  exact h
theorem inv_r {x : Nat → Int} (hx : D10 x) : v10 (rInvert x) = v10 x ^ (p - 2).toNat % p ∧ D10 (rInvert x) := by
  have h := pow_r hx powerInv
  rw [powerInv_v] at h
  exact h
end Go.Proofs.Ytbnclikjbnfodaa
