/-
  Bits laid side by side; split as numbers. Conditions: none.
-/
import Derived.Test.YtnoehjibponofaaDoorPH
namespace Go.Proofs.YtnoehjibponofaaDoor
open Go.Ev
theorem ofInt_nat {a : Int} (h0 : 0 ≤ a) (h1 : a < 18446744073709551616) : (BitVec.ofInt (IntKind.bits .u64) a).toNat = a.toNat := by
  rw [BitVec.toNat_ofInt]
  show (a % 18446744073709551616).toNat = _
  rw [sm a h0 h1]
/-- Bits that do not meet. -/
theorem or_add (a b : Int) (m : Nat) (ha : 0 ≤ a) (ham : a < 2 ^ m) (hb : 0 ≤ b) (h : a + b * 2 ^ m < 18446744073709551616) : orI .u64 a (b * 2 ^ m) = a + b * 2 ^ m := by
  have hp : (0 : Int) < 2 ^ m := by exact_mod_cast Nat.two_pow_pos m
  have hbm : 0 ≤ b * 2 ^ m := Int.mul_nonneg hb (by omega)
  unfold orI bits2
  rw [BitVec.toNat_or, ofInt_nat ha (by omega), ofInt_nat hbm (by omega)]
  have e : (b * 2 ^ m).toNat = 2 ^ m * b.toNat := by
    obtain ⟨B, rfl⟩ := Int.eq_ofNat_of_zero_le hb
    have : ((B : Int) * 2 ^ m) = ((2 ^ m * B : Nat) : Int) := by rw [Int.natCast_mul, Int.mul_comm]; simp
    rw [this, Int.toNat_natCast, Int.toNat_natCast]
  have e2 : a.toNat < 2 ^ m := by
    have : ((2 ^ m : Nat) : Int) = 2 ^ m := by simp
    omega
  rw [e, Nat.or_comm, ← Nat.two_pow_add_eq_or_of_lt e2]
  have e3 : ((2 ^ m * b.toNat + a.toNat : Nat) : Int) = a + b * 2 ^ m := by rw [← e]; omega
  rw [e3, wrap_u64, sm _ (by omega) h]
theorem or_shl4 {a b : Int} (ha : 0 ≤ a) (ha1 : a < 16) : orI .u64 a (shlI .u64 b 4) = a + 16 * (b % 1152921504606846976) := by
  have e : shlI .u64 b 4 = (b % 1152921504606846976) * 2 ^ 4 := by
    show shlI .u64 b ((4 : Nat) : Int) = _
    rw [shlU b 4 (by omega)]; omega
  rw [e, or_add a _ 4 ha (by omega) (by omega) (by omega)]
  omega
theorem shr60 (a : Int) : shrI .u64 a 60 = a / 1152921504606846976 := shrU a 60 (by omega)
theorem and60 (a : Int) : andI .u64 a 1152921504606846975 = a % 1152921504606846976 := and_mask a 60 (by omega)
theorem hi_last {n j : Nat} (h : ¬ j + 4 < n) (x : Nat → Int) : hiF n x j = x (j + 3) / 1152921504606846976 := by
  unfold hiF
  rw [ff bltT h, cond_false, shr60]
theorem hi_mid {n j : Nat} (h : j + 4 < n) {x : Nat → Int} (h3 : U1 (x (j + 3))) (h4 : U1 (x (j + 4))) : hiF n x j = x (j + 3) / 1152921504606846976 + 16 * (x (j + 4) % 1152921504606846976) := by
  unfold hiF
  rw [bltT.2 h, cond_true, shr60]
  obtain ⟨a, b⟩ := h3; obtain ⟨c, d⟩ := h4
  exact or_shl4 (by omega) (by omega)
theorem hi_U {n : Nat} {x : Nat → Int} (hx : ∀ j, j < n → U1 (x j)) : ∀ j, j + 3 < n → U1 (hiF n x j) := by
  intro j hj
  have h3 := hx (j + 3) hj
  by_cases h : j + 4 < n
  · have h4 := hx (j + 4) h
    rw [hi_mid h h3 h4]
    obtain ⟨a, b⟩ := h3; obtain ⟨c, d⟩ := h4
    exact ⟨by omega, by omega⟩
  · rw [hi_last h]
    obtain ⟨a, b⟩ := h3
    exact ⟨by omega, by omega⟩
/-- The first 252 bits. -/
theorem low_v {n : Nat} {x : Nat → Int} (hx : ∀ j, j < n → U1 (x j)) : u4 (lowF n x) = true ∧ 0 ≤ lv4 (lowF n x) ∧ lv4 (lowF n x) < 7237005577332262213973186563042994240829374041602535252466099000494570602496 := by
  have h : ∀ j, j < 3 → U1 (lowF n x j) := by
    intro j hj
    have e : lowF n x j = bif Nat.blt j n then x j else 0 := by
      unfold lowF
      rw [ff beqT (by omega), cond_false]
    rw [e]
    by_cases hjn : j < n
    · rw [bltT.2 hjn, cond_true]; exact hx j hjn
    · rw [ff bltT hjn, cond_false]; exact ⟨by decide, by decide⟩
  have h3 : 0 ≤ lowF n x 3 ∧ lowF n x 3 < 1152921504606846976 := by
    have e : lowF n x 3 = (bif Nat.blt 3 n then x 3 else 0) % 1152921504606846976 := by
      unfold lowF
      rw [beqT.2 rfl, cond_true, and60]
    rw [e]; omega
  obtain ⟨a0, b0⟩ := h 0 (by omega); obtain ⟨a1, b1⟩ := h 1 (by omega); obtain ⟨a2, b2⟩ := h 2 (by omega)
  refine ⟨u4_mk fun j hj => ?_, ?_, ?_⟩
  · have : j = 0 ∨ j = 1 ∨ j = 2 ∨ j = 3 := by omega
    rcases this with rfl | rfl | rfl | rfl
    · exact ⟨a0, b0⟩
    · exact ⟨a1, b1⟩
    · exact ⟨a2, b2⟩
    · exact ⟨h3.1, by omega⟩
  · unfold lv4; omega
  · unfold lv4; omega
theorem low_small {n : Nat} {x : Nat → Int} {j : Nat} (hj : j < 3) (hn : j < n) : lowF n x j = x j := by
  unfold lowF
  rw [ff beqT (by omega), cond_false, bltT.2 hn, cond_true]
theorem low_none {n : Nat} {x : Nat → Int} {j : Nat} (hj : j < 3) (hn : ¬ j < n) : lowF n x j = 0 := by
  unfold lowF
  rw [ff beqT (by omega), cond_false, ff bltT hn, cond_false]
theorem low_3 {n : Nat} {x : Nat → Int} (hn : 3 < n) : lowF n x 3 = x 3 % 1152921504606846976 := by
  unfold lowF
  rw [beqT.2 rfl, cond_true, bltT.2 hn, cond_true, and60]
theorem low_3n {n : Nat} {x : Nat → Int} (hn : ¬ 3 < n) : lowF n x 3 = 0 := by
  unfold lowF
  rw [beqT.2 rfl, cond_true, ff bltT hn, cond_false, and60]; rfl
theorem split_v4 {x : Nat → Int} (hx : ∀ j, j < 4 → U1 (x j)) : lvn 4 x = lv4 (lowF 4 x) + 7237005577332262213973186563042994240829374041602535252466099000494570602496 * lvn 1 (hiF 4 x) := by
  have u0 := hx 0 (by omega)
  have u1 := hx 1 (by omega)
  have u2 := hx 2 (by omega)
  have u3 := hx 3 (by omega)
  simp only [lvn, lv4, Int.reducePow, Nat.reduceAdd, low_small (x := x) (n := 4) (j := 0) (by omega) (by omega), low_small (x := x) (n := 4) (j := 1) (by omega) (by omega), low_small (x := x) (n := 4) (j := 2) (by omega) (by omega), low_3 (x := x) (n := 4) (by omega), hi_last (n := 4) (j := 0) (by omega) x]
  unfold U1 at *
  generalize x 0 = a0 at *
  generalize x 1 = a1 at *
  generalize x 2 = a2 at *
  generalize x 3 = a3 at *
  clear hx
  omega
theorem split_v5 {x : Nat → Int} (hx : ∀ j, j < 5 → U1 (x j)) : lvn 5 x = lv4 (lowF 5 x) + 7237005577332262213973186563042994240829374041602535252466099000494570602496 * lvn 2 (hiF 5 x) := by
  have u0 := hx 0 (by omega)
  have u1 := hx 1 (by omega)
  have u2 := hx 2 (by omega)
  have u3 := hx 3 (by omega)
  have u4 := hx 4 (by omega)
  simp only [lvn, lv4, Int.reducePow, Nat.reduceAdd, low_small (x := x) (n := 5) (j := 0) (by omega) (by omega), low_small (x := x) (n := 5) (j := 1) (by omega) (by omega), low_small (x := x) (n := 5) (j := 2) (by omega) (by omega), low_3 (x := x) (n := 5) (by omega), hi_mid (n := 5) (j := 0) (by omega) u3 u4, hi_last (n := 5) (j := 1) (by omega) x]
  unfold U1 at *
  generalize x 0 = a0 at *
  generalize x 1 = a1 at *
  generalize x 2 = a2 at *
  generalize x 3 = a3 at *
  generalize x 4 = a4 at *
  clear hx
  omega
theorem split_v6 {x : Nat → Int} (hx : ∀ j, j < 6 → U1 (x j)) : lvn 6 x = lv4 (lowF 6 x) + 7237005577332262213973186563042994240829374041602535252466099000494570602496 * lvn 3 (hiF 6 x) := by
  have u0 := hx 0 (by omega)
  have u1 := hx 1 (by omega)
  have u2 := hx 2 (by omega)
  have u3 := hx 3 (by omega)
  have u4 := hx 4 (by omega)
  have u5 := hx 5 (by omega)
  simp only [lvn, lv4, Int.reducePow, Nat.reduceAdd, low_small (x := x) (n := 6) (j := 0) (by omega) (by omega), low_small (x := x) (n := 6) (j := 1) (by omega) (by omega), low_small (x := x) (n := 6) (j := 2) (by omega) (by omega), low_3 (x := x) (n := 6) (by omega), hi_mid (n := 6) (j := 0) (by omega) u3 u4, hi_mid (n := 6) (j := 1) (by omega) u4 u5, hi_last (n := 6) (j := 2) (by omega) x]
  unfold U1 at *
  generalize x 0 = a0 at *
  generalize x 1 = a1 at *
  generalize x 2 = a2 at *
  generalize x 3 = a3 at *
  generalize x 4 = a4 at *
  generalize x 5 = a5 at *
  clear hx
  omega
theorem split_v7 {x : Nat → Int} (hx : ∀ j, j < 7 → U1 (x j)) : lvn 7 x = lv4 (lowF 7 x) + 7237005577332262213973186563042994240829374041602535252466099000494570602496 * lvn 4 (hiF 7 x) := by
  have u0 := hx 0 (by omega)
  have u1 := hx 1 (by omega)
  have u2 := hx 2 (by omega)
  have u3 := hx 3 (by omega)
  have u4 := hx 4 (by omega)
  have u5 := hx 5 (by omega)
  have u6 := hx 6 (by omega)
  simp only [lvn, lv4, Int.reducePow, Nat.reduceAdd, low_small (x := x) (n := 7) (j := 0) (by omega) (by omega), low_small (x := x) (n := 7) (j := 1) (by omega) (by omega), low_small (x := x) (n := 7) (j := 2) (by omega) (by omega), low_3 (x := x) (n := 7) (by omega), hi_mid (n := 7) (j := 0) (by omega) u3 u4, hi_mid (n := 7) (j := 1) (by omega) u4 u5, hi_mid (n := 7) (j := 2) (by omega) u5 u6, hi_last (n := 7) (j := 3) (by omega) x]
  unfold U1 at *
  generalize x 0 = a0 at *
  generalize x 1 = a1 at *
  generalize x 2 = a2 at *
  generalize x 3 = a3 at *
  generalize x 4 = a4 at *
  generalize x 5 = a5 at *
  generalize x 6 = a6 at *
  clear hx
  omega
theorem split_v8 {x : Nat → Int} (hx : ∀ j, j < 8 → U1 (x j)) : lvn 8 x = lv4 (lowF 8 x) + 7237005577332262213973186563042994240829374041602535252466099000494570602496 * lvn 5 (hiF 8 x) := by
  have u0 := hx 0 (by omega)
  have u1 := hx 1 (by omega)
  have u2 := hx 2 (by omega)
  have u3 := hx 3 (by omega)
  have u4 := hx 4 (by omega)
  have u5 := hx 5 (by omega)
  have u6 := hx 6 (by omega)
  have u7 := hx 7 (by omega)
  simp only [lvn, lv4, Int.reducePow, Nat.reduceAdd, low_small (x := x) (n := 8) (j := 0) (by omega) (by omega), low_small (x := x) (n := 8) (j := 1) (by omega) (by omega), low_small (x := x) (n := 8) (j := 2) (by omega) (by omega), low_3 (x := x) (n := 8) (by omega), hi_mid (n := 8) (j := 0) (by omega) u3 u4, hi_mid (n := 8) (j := 1) (by omega) u4 u5, hi_mid (n := 8) (j := 2) (by omega) u5 u6, hi_mid (n := 8) (j := 3) (by omega) u6 u7, hi_last (n := 8) (j := 4) (by omega) x]
  unfold U1 at *
  generalize x 0 = a0 at *
  generalize x 1 = a1 at *
  generalize x 2 = a2 at *
  generalize x 3 = a3 at *
  generalize x 4 = a4 at *
  generalize x 5 = a5 at *
  generalize x 6 = a6 at *
  generalize x 7 = a7 at *
  clear hx
  omega
theorem split_v2 {x : Nat → Int} : lvn 2 x = lv4 (lowF 2 x) := by
  simp only [lvn, lv4, Int.reducePow, low_small (x := x) (n := 2) (j := 0) (by omega) (by omega), low_small (x := x) (n := 2) (j := 1) (by omega) (by omega), low_none (x := x) (n := 2) (j := 2) (by omega) (by omega), low_3n (x := x) (n := 2) (by omega)]
  omega
theorem split_v3 {x : Nat → Int} : lvn 3 x = lv4 (lowF 3 x) := by
  simp only [lvn, lv4, Int.reducePow, low_small (x := x) (n := 3) (j := 0) (by omega) (by omega), low_small (x := x) (n := 3) (j := 1) (by omega) (by omega), low_small (x := x) (n := 3) (j := 2) (by omega) (by omega), low_3n (x := x) (n := 3) (by omega)]
  omega
end Go.Proofs.YtnoehjibponofaaDoor
