/-
  Plain facts on the words that the evaluator writes for unsigned numbers. Conditions: none.
-/
import Derived.Test.YtomipglebaaagaaFvI
namespace Go.Ev

theorem wrap_u64 (a : Int) : IntKind.wrap .u64 a = a % 18446744073709551616 := by simp [IntKind.wrap, IntKind.bits, IntKind.signed]
theorem addU (a b : Int) : addI .u64 a b = (a + b) % 18446744073709551616 := wrap_u64 _
theorem subU (a b : Int) : subI .u64 a b = (a - b) % 18446744073709551616 := wrap_u64 _
theorem mulU (a b : Int) : mulI .u64 a b = (a * b) % 18446744073709551616 := wrap_u64 _
theorem shrU (a : Int) (k : Nat) (hk : k ≤ 64) : shrI .u64 a (k : Int) = a / 2 ^ k := by
  unfold shrI
  rw [show min (Int.toNat (k : Int)) (IntKind.bits .u64) = k from Nat.min_eq_left hk]
  exact Int.fdiv_eq_ediv_of_nonneg _ (by exact_mod_cast Nat.zero_le (2 ^ k))
theorem shlU (a : Int) (k : Nat) (hk : k ≤ 64) : shlI .u64 a (k : Int) = (a * 2 ^ k) % 18446744073709551616 := by
  unfold shlI
  rw [show min (Int.toNat (k : Int)) (IntKind.bits .u64) = k from Nat.min_eq_left hk]
  exact wrap_u64 _
theorem shr51 (a : Int) : shrI .u64 a 51 = a / 2251799813685248 := shrU a 51 (by omega)
theorem shr26 (a : Int) : shrI .u64 a 26 = a / 67108864 := shrU a 26 (by omega)
theorem shr21 (a : Int) : shrI .u64 a 21 = a / 2097152 := shrU a 21 (by omega)
theorem and_mask (a : Int) (k : Nat) (hk : k ≤ 64) : andI .u64 a (2 ^ k - 1) = a % 2 ^ k := by
  unfold andI bits2
  have hpos : (0 : Int) < 2 ^ k := by exact_mod_cast Nat.two_pow_pos k
  have hcast : ((2 ^ k : Nat) : Int) = 2 ^ k := by simp
  have hle : (2 : Int) ^ k ≤ 18446744073709551616 := by
    have h1 : (2 : Nat) ^ k ≤ 2 ^ 64 := Nat.pow_le_pow_right (by omega) hk
    have h2 : (2 : Nat) ^ 64 = 18446744073709551616 := by decide
    omega
  have e1 : (BitVec.ofInt (IntKind.bits .u64) a).toNat = (a % 18446744073709551616).toNat := by
    rw [BitVec.toNat_ofInt]; rfl
  have e2 : (BitVec.ofInt (IntKind.bits .u64) (2 ^ k - 1)).toNat = 2 ^ k - 1 := by
    have : (2 ^ k - 1 : Int) % 18446744073709551616 = 2 ^ k - 1 := Int.emod_eq_of_lt (by omega) (by omega)
    rw [BitVec.toNat_ofInt]
    show ((2 ^ k - 1 : Int) % 18446744073709551616).toNat = _
    rw [this]
    have h1 : 0 < 2 ^ k := Nat.two_pow_pos k
    have h2 : ((2 ^ k : Nat) : Int) = 2 ^ k := by simp
    omega
  rw [BitVec.toNat_and, e1, e2, Nat.and_two_pow_sub_one_eq_mod, wrap_u64]
  have h0 : 0 ≤ a % 18446744073709551616 := Int.emod_nonneg _ (by omega)
  rw [Int.natCast_emod, Int.toNat_of_nonneg h0]
  have hd : (2 : Int) ^ k ∣ 18446744073709551616 := by
    have : (2 : Int) ^ 64 = 18446744073709551616 := by decide
    rw [← this]; exact_mod_cast Nat.pow_dvd_pow 2 hk
  have : ((2 ^ k : Nat) : Int) = 2 ^ k := by simp
  rw [this, Int.emod_emod_of_dvd _ hd]
  exact Int.emod_eq_of_lt (Int.emod_nonneg _ (by omega)) (Int.lt_of_lt_of_le (Int.emod_lt_of_pos _ hpos) hle)
theorem and51 (a : Int) : andI .u64 a 2251799813685247 = a % 2251799813685248 := and_mask a 51 (by omega)
theorem and26 (a : Int) : andI .u64 a 67108863 = a % 67108864 := and_mask a 26 (by omega)
theorem and21 (a : Int) : andI .u64 a 2097151 = a % 2097152 := and_mask a 21 (by omega)
theorem and1 (a : Int) : andI .u64 a 1 = a % 2 := and_mask a 1 (by omega)
end Go.Ev

namespace Go.Ev
theorem wrap_i64 (a : Int) (h : -9223372036854775808 ≤ a ∧ a < 9223372036854775808) : IntKind.wrap .i64 a = a := IntWalk.i64_in a (by omega)
theorem quo_nat (k m : Nat) (hk : k < 2147483648) : quoI .i64 (k : Int) (m : Int) = ((k / m : Nat) : Int) := by
  unfold quoI
  have h1 : (k : Int).tdiv (m : Int) = ((k / m : Nat) : Int) := by simp [Int.tdiv]
  have h2 : k / m ≤ k := Nat.div_le_self k m
  rw [h1]
  generalize k / m = q at *
  exact wrap_i64 _ (by omega)
theorem rem_nat (k m : Nat) : remI (k : Int) (m : Int) = ((k % m : Nat) : Int) := by unfold remI; simp [Int.tmod]
theorem add1_nat (k : Nat) (hk : k < 2147483648) : addI .i64 (k : Int) 1 = ((k + 1 : Nat) : Int) := by
  unfold addI; rw [wrap_i64 _ (by omega)]; omega
theorem sub1_nat (k : Nat) (hk : k < 2147483648) : subI .i64 (k : Int) 1 = (k : Int) - 1 := by
  unfold subI; rw [wrap_i64 _ (by omega)]
end Go.Ev
