/-
  The document's sums, products, small numbers and reduced Elements as numbers. Conditions: none.
-/
import Derived.Test.YtbnclikjbnfodaaMC
namespace Go.Num

theorem pw_eq (B : Int) : ∀ n, pw B n = B ^ n
  | 0 => by simp [pw]
  | n + 1 => by rw [pw, pw_eq B n, Int.pow_succ, Int.mul_comm]

theorem emod_mul' {B C N : Int} (hB : 0 < B) (hC : 0 < C) : N % B + B * (N / B % C) = N % (B * C) := by
  have h1 := Int.emod_add_mul_ediv N B
  have h2 := Int.emod_add_mul_ediv (N / B) C
  have e : N = (N % B + B * (N / B % C)) + (B * C) * (N / B / C) := by
    have : B * (N / B % C + C * (N / B / C)) = B * (N / B) := by rw [h2]
    rw [Int.mul_add, ← Int.mul_assoc] at this
    omega
  have r0 := Int.emod_nonneg N (show B ≠ 0 by omega)
  have r1 := Int.emod_lt_of_pos N hB
  have s0 := Int.emod_nonneg (N / B) (show C ≠ 0 by omega)
  have s1 := Int.emod_lt_of_pos (N / B) hC
  have s2 : B * (N / B % C) + B ≤ B * C := by
    have := Int.mul_le_mul_of_nonneg_left (show N / B % C + 1 ≤ C by omega) (show 0 ≤ B by omega)
    rw [Int.mul_add] at this; omega
  have s3 := Int.mul_nonneg (show 0 ≤ B by omega) s0
  conv => rhs; rw [e]
  rw [Int.add_mul_emod_self_left]
  exact (Int.emod_eq_of_lt (by omega) (by omega)).symm

theorem pow_pos' {B : Int} (hB : 0 < B) (n : Nat) : 0 < B ^ n := by rw [← pw_eq]; exact pw_pos hB n

/-- The digits of a number. -/
theorem dv_digits {B : Int} (hB : 0 < B) : ∀ {n : Nat} {N : Int}, dv B n (fun j => N / B ^ j % B) = N % B ^ n
  | 0, N => by simp [dv, Int.emod_one]
  | n + 1, N => by
    have ih := dv_digits hB (n := n) (N := N / B)
    have e : (fun i => N / B ^ (i + 1) % B) = fun j => N / B / B ^ j % B := funext fun j => by
      rw [Int.ediv_ediv_of_nonneg (by omega), Int.pow_succ, Int.mul_comm]
    rw [dv, e, ih]
    have h1 : B ^ (n + 1) = B * B ^ n := by rw [Int.pow_succ, Int.mul_comm]
    rw [h1, Int.pow_zero, Int.ediv_one]
    exact emod_mul' hB (pow_pos' hB n)

theorem bits_sum : ∀ {m : Nat} {M : Int}, (List.range m).foldl (fun acc i => acc + M / 2 ^ i % 2 * 2 ^ i) 0 = M % 2 ^ m
  | 0, M => by simp [Int.emod_one]
  | m + 1, M => by
    rw [List.range_succ, List.foldl_append, bits_sum]
    simp only [List.foldl_cons, List.foldl_nil]
    have := emod_mul' (B := 2 ^ m) (C := 2) (N := M) (pow_pos' (by omega) m) (by omega)
    rw [Int.pow_succ, ← this, Int.mul_comm (M / 2 ^ m % 2)]

/-- A bit of a number is a bit of one of its digits. -/
theorem digit_bit {k : Nat} {a : Nat → Int} {n m r : Nat} (h : ∀ i, i < n → 0 ≤ a i ∧ a i < 2 ^ k) (hm : m < n) (hr : r < k) :
    dv (2 ^ k) n a / 2 ^ (k * m + r) % 2 = a m / 2 ^ r % 2 := by
  have hB : (0 : Int) < 2 ^ k := pow_pos' (by omega) k
  obtain ⟨l, rfl⟩ : ∃ l, n = m + (l + 1) := ⟨n - m - 1, by omega⟩
  rw [dv_split, dv]
  have hlow := dv_bound hB (n := m) (a := a) fun i hi => h i (by omega)
  rw [Int.pow_add, ← Int.ediv_ediv_of_nonneg (by exact Int.le_of_lt (pow_pos' (by omega) _))]
  have hpw : pw (2 ^ k) m = 2 ^ (k * m) := by rw [pw_eq, Int.pow_mul]
  rw [hpw] at hlow ⊢
  have e1 : (dv (2 ^ k) m a + 2 ^ (k * m) * (a (m + 0) + 2 ^ k * dv (2 ^ k) l fun i => a (m + (i + 1)))) / 2 ^ (k * m) = a m + 2 ^ k * dv (2 ^ k) l fun i => a (m + (i + 1)) := by
    rw [Int.add_mul_ediv_left _ _ (Int.ne_of_gt (pow_pos' (by omega) _)), Int.ediv_eq_zero_of_lt hlow.1 hlow.2]; simp
  rw [e1]
  obtain ⟨d, rfl⟩ : ∃ d, k = r + (d + 1) := ⟨k - r - 1, by omega⟩
  have e2 : (2 : Int) ^ (r + (d + 1)) = 2 ^ r * (2 * 2 ^ d) := by rw [Int.pow_add, Int.pow_succ, Int.mul_comm (2 ^ d)]
  rw [e2, Int.mul_assoc, Int.add_mul_ediv_left _ _ (Int.ne_of_gt (pow_pos' (by omega) _)), Int.mul_assoc, Int.add_mul_emod_self_left]

end Go.Num
namespace Go.Proofs.Ytbnclikjbnfodaa
open Go.Ev Go.Num

theorem shr52 (a : Int) : shrI .u64 a 52 = a / 4503599627370496 := shrU a 52 (by omega)

theorem small_r {n : Int} (h0 : 0 ≤ n) (h1 : n < 18446744073709551616) : v10 (rSmall n) = n ∧ D10 (rSmall n) := by
  have e : v10 (rSmall n) = n := by
    rw [v10_eq]
    show andI .u64 n 67108863 + 67108864 * (andI .u64 (shrI .u64 n 26) 67108863 + 67108864 * (shrI .u64 n 52 + 67108864 * 0)) = n
    rw [and26, shr26, and26, shr52]; omega
  refine ⟨e, ⟨fun j hj => ?_, by rw [e]; unfold p; omega⟩⟩
  have h : j = 0 ∨ j = 1 ∨ j = 2 ∨ (3 ≤ j ∧ j < 10) := by omega
  rcases h with rfl | rfl | rfl | ⟨h3, h4⟩
  · show 0 ≤ andI .u64 n 67108863 ∧ andI .u64 n 67108863 < 67108864
    rw [and26]; omega
  · show 0 ≤ andI .u64 (shrI .u64 n 26) 67108863 ∧ andI .u64 (shrI .u64 n 26) 67108863 < 67108864
    rw [and26]; omega
  · show 0 ≤ shrI .u64 n 52 ∧ shrI .u64 n 52 < 67108864
    rw [shr52]; omega
  · have : rSmall n j = 0 := by
      have h : j = 3 ∨ j = 4 ∨ j = 5 ∨ j = 6 ∨ j = 7 ∨ j = 8 ∨ j = 9 := by omega
      rcases h with rfl | rfl | rfl | rfl | rfl | rfl | rfl <;> rfl
    rw [this]; omega

theorem L_at (l : List Int) (j : Nat) : L l j = l.getD j 0 := rfl

theorem ten {P : Nat → Prop} (h : P 0 ∧ P 1 ∧ P 2 ∧ P 3 ∧ P 4 ∧ P 5 ∧ P 6 ∧ P 7 ∧ P 8 ∧ P 9) : ∀ j, j < 10 → P j := by
  intro j hj
  obtain ⟨h0, h1, h2, h3, h4, h5, h6, h7, h8, h9⟩ := h
  have h : j = 0 ∨ j = 1 ∨ j = 2 ∨ j = 3 ∨ j = 4 ∨ j = 5 ∨ j = 6 ∨ j = 7 ∨ j = 8 ∨ j = 9 := by omega
  rcases h with rfl | rfl | rfl | rfl | rfl | rfl | rfl | rfl | rfl | rfl <;> assumption
/-- A list of ten as a function. -/
theorem L10 (f : Nat → Int) : ∀ j, j < 10 → L [f 0, f 1, f 2, f 3, f 4, f 5, f 6, f 7, f 8, f 9] j = f j := ten ⟨rfl, rfl, rfl, rfl, rfl, rfl, rfl, rfl, rfl, rfl⟩

theorem least_nf {f : Nat → Int} (h : ∀ j, j < 10 → 0 ≤ f j ∧ f j < 1152921504606846976) : v10 (rLeast (l10 (f 0) (f 1) (f 2) (f 3) (f 4) (f 5) (f 6) (f 7) (f 8) (f 9))) = v10 f % p ∧ D10 (rLeast (l10 (f 0) (f 1) (f 2) (f 3) (f 4) (f 5) (f 6) (f 7) (f 8) (f 9))) := by
  rw [rLeast_nf]; exact least_v h

theorem add_r {a b : Nat → Int} (ha : D10 a) (hb : D10 b) : v10 (rAdd a b) = (v10 a + v10 b) % p ∧ D10 (rAdd a b) := by
  have e : ∀ j, j < 10 → addI .u64 (a j) (b j) = a j + b j := fun j hj => by
    have := ha.dig j hj; have := hb.dig j hj
    rw [addU, sm _ (by omega) (by omega)]
  have h := least_nf (f := fun j => addI .u64 (a j) (b j)) (fun j hj => by
    have := ha.dig j hj; have := hb.dig j hj
    simp only [e j hj]; omega)
  have h2 : v10 (fun j => addI .u64 (a j) (b j)) = v10 a + v10 b := by
    unfold v10
    rw [← dv_add]; exact dv_congr e
  rw [h2] at h
  exact h

theorem neg_r {a : Nat → Int} (ha : D10 a) : v10 (rNeg a) = (-v10 a) % p ∧ D10 (rNeg a) := by
  obtain ⟨h1, h2⟩ := less_v prime_dig ha.dig (by rw [prime_v]; exact Int.le_of_lt ha.lt)
  have h3 := least_nf (f := rLess rPrime a) (fun j hj => by have := h2 j hj; omega)
  rw [h1, prime_v] at h3
  have e : (p - v10 a) % p = (-v10 a) % p := by
    rw [show p - v10 a = -v10 a + p by omega, Int.add_emod_right]
  rw [e] at h3
  exact h3

theorem sub_r {a b : Nat → Int} (ha : D10 a) (hb : D10 b) : v10 (rSub a b) = (v10 a - v10 b) % p ∧ D10 (rSub a b) := by
  obtain ⟨h1, h2⟩ := neg_r hb
  obtain ⟨h3, h4⟩ := add_r ha h2
  refine ⟨?_, h4⟩
  show v10 (rAdd a (rNeg b)) = _
  rw [h3, h1, Int.add_emod_emod, Int.sub_eq_add_neg]

end Go.Proofs.Ytbnclikjbnfodaa
