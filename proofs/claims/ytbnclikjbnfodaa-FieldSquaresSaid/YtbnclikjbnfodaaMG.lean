/-
  The program's sums, differences and negatives as numbers. Conditions: none.
-/
import Derived.Test.YtbnclikjbnfodaaMF
namespace Go.Proofs.Ytbnclikjbnfodaa
open Go.Ev Go.Num

theorem L5 (f : Nat → Int) : ∀ j, j < 5 → L [f 0, f 1, f 2, f 3, f 4] j = f j := five ⟨rfl, rfl, rfl, rfl, rfl⟩

theorem reduce_L {f : Nat → Int} (h : U5 f) : v5 (reduceF (L [f 0, f 1, f 2, f 3, f 4])) = v5 f % p ∧ R5 (reduceF (L [f 0, f 1, f 2, f 3, f 4])) := by
  have h1 := reduce_v (x := L [f 0, f 1, f 2, f 3, f 4]) (fun j hj => by rw [L5 f j hj]; exact h j hj)
  have h2 : v5 (L [f 0, f 1, f 2, f 3, f 4]) = v5 f := dv_congr (L5 f)
  rwa [h2] at h1

theorem carry_small {x : Nat → Int} (h : U5 x) : ∀ j, j < 5 → 0 ≤ carryF x j ∧ carryF x j ≤ 2251799813685247 + 155629 := by
  obtain ⟨a1, a2, a3, a4⟩ := carry_v h
  intro j hj
  by_cases e : j = 0
  · subst e; exact a2
  · have := a3 j (by omega) hj
    have := h (j - 1) (by omega)
    omega

theorem add_v {x y : Nat → Int} (hx : U5 x) (hy : U5 y) : v5 (addF x y) = (v5 x + v5 y) % p ∧ R5 (addF x y) := by
  have cx := carry_small hx
  have cy := carry_small hy
  have e : ∀ j, j < 5 → addI .u64 (carryF x j) (carryF y j) = carryF x j + carryF y j := fun j hj => by
    have := cx j hj; have := cy j hj
    rw [addU, sm _ (by omega) (by omega)]
  have h := reduce_L (f := fun j => addI .u64 (carryF x j) (carryF y j)) (fun j hj => by
    have := cx j hj; have := cy j hj
    simp only [e j hj]; omega)
  have h2 : v5 (fun j => addI .u64 (carryF x j) (carryF y j)) = v5 (carryF x) + v5 (carryF y) := by
    unfold v5
    rw [← dv_add]; exact dv_congr e
  rw [h2, (carry_v hx).1, (carry_v hy).1] at h
  have e3 : (v5 x - p * (x 4 / 2251799813685248) + (v5 y - p * (y 4 / 2251799813685248))) % p = (v5 x + v5 y) % p := by
    rw [show v5 x - p * (x 4 / 2251799813685248) + (v5 y - p * (y 4 / 2251799813685248)) = v5 x + v5 y - p * (x 4 / 2251799813685248 + y 4 / 2251799813685248) by rw [Int.mul_add]; omega, Int.sub_mul_emod_self_left]
  rw [e3] at h
  exact h

theorem neg_v {x : Nat → Int} (hx : U5 x) : v5 (negF x) = (-v5 x) % p ∧ R5 (negF x) := by
  obtain ⟨r1, r2⟩ := reduce_v hx
  let g : Nat → Int := fun j => (if j = 0 then 4503599627370458 else 4503599627370494) - reduceF x j
  have hg : ∀ j, j < 5 → subI .u64 (if j = 0 then 4503599627370458 else 4503599627370494) (reduceF x j) = g j := fun j hj => by
    have := r2.lim j hj
    rw [subU, sm _ (by split <;> omega) (by split <;> omega)]
  have h := reduce_L (f := fun j => subI .u64 (if j = 0 then 4503599627370458 else 4503599627370494) (reduceF x j)) (fun j hj => by
    have := r2.lim j hj
    simp only [hg j hj]
    show 0 ≤ (if j = 0 then (4503599627370458 : Int) else 4503599627370494) - reduceF x j ∧ (if j = 0 then (4503599627370458 : Int) else 4503599627370494) - reduceF x j < _
    split <;> omega)
  have h2 : v5 (fun j => subI .u64 (if j = 0 then 4503599627370458 else 4503599627370494) (reduceF x j)) = 2 * p - v5 (reduceF x) := by
    have : v5 (fun j => subI .u64 (if j = 0 then 4503599627370458 else 4503599627370494) (reduceF x j)) = v5 g := dv_congr hg
    rw [this, v5_eq, v5_eq]
    show (4503599627370458 - reduceF x 0) + 2251799813685248 * ((4503599627370494 - reduceF x 1) + 2251799813685248 * ((4503599627370494 - reduceF x 2) + 2251799813685248 * ((4503599627370494 - reduceF x 3) + 2251799813685248 * (4503599627370494 - reduceF x 4)))) = _
    unfold p; omega
  rw [h2, r1] at h
  have e3 : (2 * p - v5 x % p) % p = (-v5 x) % p := by
    rw [Int.sub_emod_emod, show 2 * p - v5 x = -v5 x + p * 2 by omega, Int.add_mul_emod_self_left]
  rw [e3] at h
  exact h

theorem sub_v {x y : Nat → Int} (hx : U5 x) (hy : U5 y) : v5 (subF x y) = (v5 x - v5 y) % p ∧ R5 (subF x y) := by
  obtain ⟨n1, n2⟩ := neg_v hy
  obtain ⟨a1, a2⟩ := add_v hx n2.u
  refine ⟨?_, a2⟩
  show v5 (addF x (negF y)) = _
  rw [a1, n1, Int.add_emod_emod, Int.sub_eq_add_neg]

theorem neg_mod (a : Int) : (-(a % p)) % p = (-a) % p := by
  rw [show -(a % p) = 0 - a % p by omega, Int.sub_emod_emod, Int.zero_sub]

theorem small_v {n : Int} (h0 : 0 ≤ n) (h1 : n < 18446744073709551616) : v5 (smallF n) = n ∧ R5 (smallF n) := by
  have h := reduce_L (f := fun j => if j = 0 then n else 0) (fun j _ => by dsimp only; split <;> omega)
  have e : v5 (fun j => if j = 0 then n else 0) = n := by rw [v5_eq]; simp
  rw [e, Int.emod_eq_of_lt h0 (by unfold p; omega)] at h
  exact h

end Go.Proofs.Ytbnclikjbnfodaa
