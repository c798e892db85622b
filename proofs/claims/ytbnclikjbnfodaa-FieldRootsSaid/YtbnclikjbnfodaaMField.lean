/-
  Numbers modulo p are a field: no product of others is 0, and the power p - 1 is 1. Conditions: none.
-/
import Derived.Test.YtbnclikjbnfodaaMRing
import Derived.Test.YtbnclikjbnfodaaMPow
import Derived.Test.YtbnclikjbnfodaaMPrime
namespace Go.Proofs.Ytbnclikjbnfodaa
open Go.Ev Go.Num

def pN : Nat := 57896044618658097711785492504343953926634992332820282019728792003956564819949
theorem p_pN : p = (pN : Int) := rfl
theorem zero_dvd {X : Int} : X % p = 0 ↔ pN ∣ X.natAbs := by
  rw [p_pN, ← Int.ofNat_dvd_left, Int.dvd_iff_emod_eq_zero]
theorem mul_zero' {X Y : Int} (h : X * Y % p = 0) : X % p = 0 ∨ Y % p = 0 := by
  rw [zero_dvd] at h ⊢
  rw [zero_dvd, Int.natAbs_mul] at *
  exact prP.dvd_mul h
theorem mul_ne {X Y : Int} (hx : X % p ≠ 0) (hy : Y % p ≠ 0) : X * Y % p ≠ 0 := fun h => (mul_zero' h).elim hx hy
theorem pow_ne {X : Int} (hx : X % p ≠ 0) : ∀ n : Nat, X ^ n % p ≠ 0
  | 0 => by rw [Int.pow_zero]; decide
  | n + 1 => by rw [Int.pow_succ]; exact mul_ne (pow_ne hx n) hx
theorem fermatI {X : Int} (hx : X % p ≠ 0) : X ^ (pN - 1) % p = 1 := fermat_int (q := pN) prP hx
/-- Equal modulo p. -/
theorem sub_zero' {X Y : Int} : (X - Y) % p = 0 ↔ X % p = Y % p := by
  constructor
  · intro h
    have : X = Y + (X - Y) := by omega
    rw [this, ← ar, h, Int.add_zero]
  · intro h
    rw [← sl, h, sl, Int.sub_self]; rfl
theorem cancel {X Y Z : Int} (hz : Z % p ≠ 0) (h : X * Z % p = Y * Z % p) : X % p = Y % p := by
  rw [← sub_zero'] at h ⊢
  rw [← Int.sub_mul] at h
  exact (mul_zero' h).resolve_right hz
theorem sq_eq {X Y : Int} (h : X * X % p = Y * Y % p) : X % p = Y % p ∨ X % p = (-Y) % p := by
  rw [← sub_zero', show X * X - Y * Y = (X - Y) * (X - -Y) by grind] at h
  rcases mul_zero' h with h | h
  · exact .inl (sub_zero'.1 h)
  · exact .inr (sub_zero'.1 h)
theorem powmul {A B C : Int} (n : Nat) (h : A % p = B * C % p) : A ^ n % p = (B ^ n % p) * (C ^ n % p) % p := by
  rw [← pow_emod', h, pow_emod', Int.mul_pow, Int.mul_emod]
theorem isZero_i {x : Nat → Int} {X : Int} (h : U5 x) (e : v5 x % p = X % p) : isZeroF x = decide (X % p = 0) := by
  show eqN 5 (reduceF x) (fun _ => 0) = _
  rw [eq5 (reduce_v h).2 R5_zero, (reduce_v h).1, v5_zero, e]
theorem pow_i {x e : Nat → Int} {n : Nat} (hx : U5 x) (he : B32 e) (hn : vb e = (n : Int)) : Is (powF x e) (v5 x ^ n) := by
  have h := pow_v hx he
  rw [hn, Int.toNat_natCast] at h
  exact h
theorem inv_i {x : Nat → Int} (hx : U5 x) : Is (invertF x) (v5 x ^ (pN - 2)) := inv_v hx
theorem powK {x e : Nat → Int} {n : Nat} {X : Int} (hx : Is x X) (he : B32 e) (hn : vb e = (n : Int)) : Is (powF x e) (X ^ n) := (pow_i hx.u he hn).to (by rw [hx.1, pow_emod'])
theorem invK {x : Nat → Int} {X : Int} (hx : Is x X) : Is (invertF x) (X ^ (pN - 2)) := (inv_i hx.u).to (by rw [hx.1, pow_emod'])
/-- X times its inverse. -/
theorem inv_mul {X : Int} (hx : X % p ≠ 0) : X * X ^ (pN - 2) % p = 1 := by
  have h := fermatI hx
  have e : pN - 1 = pN - 2 + 1 := rfl
  rw [e, Int.pow_succ, Int.mul_comm] at h
  exact h
end Go.Proofs.Ytbnclikjbnfodaa
