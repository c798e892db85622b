/-
  Sums and products modulo p; answers that mean the same are the same. Conditions: none.
-/
import Derived.Test.YtbnclikjbnfodaaMK
namespace Go.Proofs.Ytbnclikjbnfodaa
open Go.Ev Go.Num

theorem ml (a b : Int) : (a % p * b) % p = (a * b) % p := by rw [Int.mul_emod, Int.emod_emod_of_dvd _ (Int.dvd_refl p), ← Int.mul_emod]
theorem mr (a b : Int) : (a * (b % p)) % p = (a * b) % p := by rw [Int.mul_emod, Int.emod_emod_of_dvd _ (Int.dvd_refl p), ← Int.mul_emod]
theorem al (a b : Int) : (a % p + b) % p = (a + b) % p := Int.emod_add_emod _ _ _
theorem ar (a b : Int) : (a + b % p) % p = (a + b) % p := Int.add_emod_emod _ _ _
theorem sl (a b : Int) : (a % p - b) % p = (a - b) % p := Int.emod_sub_emod _ _ _
theorem sr (a b : Int) : (a - b % p) % p = (a - b) % p := Int.sub_emod_emod _ _ _
theorem me (a : Int) : (a % p) % p = a % p := Int.emod_emod_of_dvd _ (Int.dvd_refl p)
theorem nm (a : Int) : (-(a % p)) % p = (-a) % p := neg_mod a

/-- Reduced limbs that mean X. -/
def Is (x : Nat → Int) (X : Int) : Prop := v5 x = X % p ∧ R5 x
theorem Is.u {x : Nat → Int} {X : Int} (h : Is x X) : U5 x := h.2.u
theorem Is.v {x : Nat → Int} {X : Int} (h : Is x X) : v5 x % p = X % p := by rw [h.1, me]
theorem Is.to {x : Nat → Int} {X Y : Int} (h : Is x X) (e : X % p = Y % p) : Is x Y := ⟨by rw [h.1, e], h.2⟩
theorem Is.eqn {x y : Nat → Int} {X Y : Int} (hx : Is x X) (hy : Is y Y) : eqN 5 x y = decide (X % p = Y % p) := by rw [eq5 hx.2 hy.2, hx.1, hy.1]
theorem Is.same {x y : Nat → Int} {X Y : Int} (hx : Is x X) (hy : Is y Y) (e : X = Y) : eqN 5 x y = true := by subst e; rw [hx.eqn hy]; exact decide_eq_true rfl

theorem small_i (n : Int) (h0 : 0 ≤ n) (h1 : n < 18446744073709551616) : Is (smallF n) n := by
  obtain ⟨s1, s2⟩ := small_v h0 h1
  exact ⟨by rw [s1]; exact (Int.emod_eq_of_lt h0 (by unfold p; omega)).symm, s2⟩
theorem reduce_i {x : Nat → Int} (h : U5 x) : Is (reduceF x) (v5 x) := reduce_v h
theorem select_i {x y : Nat → Int} (h : U5 x) : Is (selectF true x y) (v5 x) := reduce_v h
theorem select_i' {x y : Nat → Int} (h : U5 y) : Is (selectF false x y) (v5 y) := reduce_v h
theorem add_i {x y : Nat → Int} (hx : U5 x) (hy : U5 y) : Is (addF x y) (v5 x + v5 y) := add_v hx hy
theorem sub_i {x y : Nat → Int} (hx : U5 x) (hy : U5 y) : Is (subF x y) (v5 x - v5 y) := sub_v hx hy
theorem neg_i {x : Nat → Int} (hx : U5 x) : Is (negF x) (-v5 x) := neg_v hx
theorem mul_i {x y : Nat → Int} (hx : U5 x) (hy : U5 y) : Is (mulF x y) (v5 x * v5 y) := mul_v hx hy
theorem sq_i {x : Nat → Int} (hx : U5 x) : Is (squareF x) (v5 x * v5 x) := mul_v hx hx

/-! Of numbers that are known: -/
theorem addK {x y : Nat → Int} {X Y : Int} (hx : Is x X) (hy : Is y Y) : Is (addF x y) (X + Y) := (add_i hx.u hy.u).to (by rw [hx.1, hy.1, al, ar])
theorem subK {x y : Nat → Int} {X Y : Int} (hx : Is x X) (hy : Is y Y) : Is (subF x y) (X - Y) := (sub_i hx.u hy.u).to (by rw [hx.1, hy.1, sl, sr])
theorem negK {x : Nat → Int} {X : Int} (hx : Is x X) : Is (negF x) (-X) := (neg_i hx.u).to (by rw [hx.1, nm])
theorem mulK {x y : Nat → Int} {X Y : Int} (hx : Is x X) (hy : Is y Y) : Is (mulF x y) (X * Y) := (mul_i hx.u hy.u).to (by rw [hx.1, hy.1, ml, mr])
theorem sqK {x : Nat → Int} {X : Int} (hx : Is x X) : Is (squareF x) (X * X) := mulK hx hx
end Go.Proofs.Ytbnclikjbnfodaa
