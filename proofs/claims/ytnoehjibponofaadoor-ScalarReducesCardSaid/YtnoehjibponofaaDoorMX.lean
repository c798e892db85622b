/-
  Digits of a number, bits of a digit. Plain. Conditions: none.
-/
import Derived.Test.YtnoehjibponofaaDoorMB
namespace Go.Num

theorem pw_eq (B : Int) : ∀ n, pw B n = B ^ n
  | 0 => by simp [pw]
  | n + 1 => by rw [pw, pw_eq B n, Int.pow_succ, Int.mul_comm]

theorem emod_mul' {B C N : Int} (hB : 0 < B) (hC : 0 < C) : N % B + B * (N / B % C) = N % (B * C) := by
  have h1 := Int.emod_add_mul_ediv N B
  have h2 := Int.emod_add_mul_ediv (N / B) C
  have e : N = (N % B + B * (N / B % C)) + (B * C) * (N / B / C) := by
    have : B * (N / B % C + C * (N / B / C)) = B * (N / B) := by rw [h2]
    rw [Int.mul_add, ← Int.mul_assoc] at this
    omega
  have r0 := Int.emod_nonneg N (show B ≠ 0 by omega)
  have r1 := Int.emod_lt_of_pos N hB
  have s0 := Int.emod_nonneg (N / B) (show C ≠ 0 by omega)
  have s1 := Int.emod_lt_of_pos (N / B) hC
  have s2 : B * (N / B % C) + B ≤ B * C := by
    have := Int.mul_le_mul_of_nonneg_left (show N / B % C + 1 ≤ C by omega) (show 0 ≤ B by omega)
    rw [Int.mul_add] at this; omega
  have s3 := Int.mul_nonneg (show 0 ≤ B by omega) s0
  conv => rhs; rw [e]
  rw [Int.add_mul_emod_self_left]
  exact (Int.emod_eq_of_lt (by omega) (by omega)).symm

theorem pow_pos' {B : Int} (hB : 0 < B) (n : Nat) : 0 < B ^ n := by rw [← pw_eq]; exact pw_pos hB n

/-- The digits of a number. -/
theorem dv_digits {B : Int} (hB : 0 < B) : ∀ {n : Nat} {N : Int}, dv B n (fun j => N / B ^ j % B) = N % B ^ n
  | 0, N => by simp [dv, Int.emod_one]
  | n + 1, N => by
    have ih := dv_digits hB (n := n) (N := N / B)
    have e : (fun i => N / B ^ (i + 1) % B) = fun j => N / B / B ^ j % B := funext fun j => by
      rw [Int.ediv_ediv_of_nonneg (by omega), Int.pow_succ, Int.mul_comm]
    rw [dv, e, ih]
    have h1 : B ^ (n + 1) = B * B ^ n := by rw [Int.pow_succ, Int.mul_comm]
    rw [h1, Int.pow_zero, Int.ediv_one]
    exact emod_mul' hB (pow_pos' hB n)

theorem bits_sum : ∀ {m : Nat} {M : Int}, (List.range m).foldl (fun acc i => acc + M / 2 ^ i % 2 * 2 ^ i) 0 = M % 2 ^ m
  | 0, M => by simp [Int.emod_one]
  | m + 1, M => by
    rw [List.range_succ, List.foldl_append, bits_sum]
    simp only [List.foldl_cons, List.foldl_nil]
    have := emod_mul' (B := 2 ^ m) (C := 2) (N := M) (pow_pos' (by omega) m) (by omega)
    rw [Int.pow_succ, ← this, Int.mul_comm (M / 2 ^ m % 2)]

/-- A bit of a number is a bit of one of its digits. -/
theorem digit_bit {k : Nat} {a : Nat → Int} {n m r : Nat} (h : ∀ i, i < n → 0 ≤ a i ∧ a i < 2 ^ k) (hm : m < n) (hr : r < k) :
    dv (2 ^ k) n a / 2 ^ (k * m + r) % 2 = a m / 2 ^ r % 2 := by
  have hB : (0 : Int) < 2 ^ k := pow_pos' (by omega) k
  obtain ⟨l, rfl⟩ : ∃ l, n = m + (l + 1) := ⟨n - m - 1, by omega⟩
  rw [dv_split, dv]
  have hlow := dv_bound hB (n := m) (a := a) fun i hi => h i (by omega)
  rw [Int.pow_add, ← Int.ediv_ediv_of_nonneg (by exact Int.le_of_lt (pow_pos' (by omega) _))]
  have hpw : pw (2 ^ k) m = 2 ^ (k * m) := by rw [pw_eq, Int.pow_mul]
  rw [hpw] at hlow ⊢
  have e1 : (dv (2 ^ k) m a + 2 ^ (k * m) * (a (m + 0) + 2 ^ k * dv (2 ^ k) l fun i => a (m + (i + 1)))) / 2 ^ (k * m) = a m + 2 ^ k * dv (2 ^ k) l fun i => a (m + (i + 1)) := by
    rw [Int.add_mul_ediv_left _ _ (Int.ne_of_gt (pow_pos' (by omega) _)), Int.ediv_eq_zero_of_lt hlow.1 hlow.2]; simp
  rw [e1]
  obtain ⟨d, rfl⟩ : ∃ d, k = r + (d + 1) := ⟨k - r - 1, by omega⟩
  have e2 : (2 : Int) ^ (r + (d + 1)) = 2 ^ r * (2 * 2 ^ d) := by rw [Int.pow_add, Int.pow_succ, Int.mul_comm (2 ^ d)]
  rw [e2, Int.mul_assoc, Int.add_mul_ediv_left _ _ (Int.ne_of_gt (pow_pos' (by omega) _)), Int.mul_assoc, Int.add_mul_emod_self_left]

end Go.Num
