/-
  Scalars as numbers: what is loaded, what is stored. Conditions: none.
-/
import Derived.Test.YtnoehjibponofaaDoorPK
namespace Go.Proofs.YtnoehjibponofaaDoor
open Go.Ev
/-- The bytes of a number. -/
def stF (n : Int) : Nat → Int := fun j => n / 256 ^ j % 256
/-- The number of 32 bytes. -/
noncomputable def num (a : Nat → Int) : Int := lvn 4 (loadO a)
theorem lvn4 (f : Nat → Int) : lvn 4 f = lv4 f := by
  simp only [lvn, lv4, Int.reducePow]; omega
theorem num_nn (a : Nat → Int) : 0 ≤ num a ∧ num a < 115792089237316195423570985008687907853269984665640564039457584007913129639936 := by
  have := lvn_nn (n := 4) (f := loadO a) (fun j _ => loadO_U a j)
  simp only [Int.reducePow] at this
  exact this
theorem wrap_u8 (a : Int) : IntKind.wrap .u8 a = a % 256 := by simp [IntKind.wrap, IntKind.bits, IntKind.signed]
theorem shr8 (a : Int) : shrI .u64 a 8 = a / 256 := shrU a 8 (by omega)
theorem stB_v (x : Int) : ∀ k, stB x k = x / 256 ^ k % 256 := by
  intro k
  have : ∀ k, stR x k = x / 256 ^ k := by
    intro k
    induction k with
    | zero => simp [stR]
    | succ k ih =>
      rw [stR, ih, shr8, Int.ediv_ediv_of_nonneg (Int.le_of_lt (Int.pow_pos (by omega))), Int.pow_succ]
  unfold stB
  rw [this, wrap_u8]
theorem byte_of (n : Int) (q r : Nat) (hr : r < 8) : n / 18446744073709551616 ^ q % 18446744073709551616 / 256 ^ r % 256 = n / 256 ^ (8 * q + r) % 256 := by
  have e : (256 : Int) ^ (8 * q + r) = 18446744073709551616 ^ q * 256 ^ r := by
    rw [Int.pow_add, Int.pow_mul]; rfl
  rw [e, ← Int.ediv_ediv_of_nonneg (Int.le_of_lt (Int.pow_pos (by omega)))]
  generalize n / 18446744073709551616 ^ q = x
  have : r = 0 ∨ r = 1 ∨ r = 2 ∨ r = 3 ∨ r = 4 ∨ r = 5 ∨ r = 6 ∨ r = 7 := by omega
  rcases this with rfl | rfl | rfl | rfl | rfl | rfl | rfl | rfl <;> simp only [Int.reducePow] <;> omega
theorem store_eq {x : Nat → Int} {n : Int} (h : ∀ j, j < 4 → x j = wF n j) : (V.ints .u8 32 (storeO x)).den z0 = (V.ints .u8 32 (stF n)).den z0 := by
  rw [storeO_eq]
  refine ints_eq fun j hj => ?_
  unfold storeF
  rw [stB_v, h (j / 8) (by omega)]
  unfold wF stF
  rw [byte_of n (j / 8) (j % 8) (by omega)]
  congr 3
  omega
theorem bel_n {o x : Nat → Int} (hx : u4 x = true) (ho : eqN 4 o ordF = true) : ∀ j, j < 4 → belO o x j = wF (lv4 x % LL) j := by
  obtain ⟨h1, h2, _⟩ := fin_ok hx ho
  rw [belO_eq]
  have h := words_at h1
  rw [h2] at h
  exact h
theorem red_n {n : Nat} {f : Nat → Int} : ∀ j, j < 4 → redO n f j = wF (lvn n f % LL) j := by rw [redO_eq]; exact fun _ _ => rfl
theorem LL_pos : 0 < LL := by unfold LL; decide
theorem mod_nn (a : Int) : 0 ≤ a % LL ∧ a % LL < LL := ⟨Int.emod_nonneg _ (by unfold LL; decide), Int.emod_lt_of_pos _ LL_pos⟩
theorem red_u4 (n : Nat) (f : Nat → Int) : u4 (redO n f) = true := by rw [redO_eq]; exact wF_u4 _
theorem red_lv (n : Nat) (f : Nat → Int) : lv4 (redO n f) = lvn n f % LL := by
  have h := mod_nn (lvn n f)
  rw [redO_eq]
  refine wF_v h.1 ?_
  have := h.2
  unfold LL at this ⊢
  omega
/-- What is stored is loaded again. -/
theorem orI_ld (n : Int) (q : Nat) : ∀ k, k ≤ 8 → ldR (stF n) (8 * q) k = n / 18446744073709551616 ^ q % 256 ^ k
  | 0, _ => by simp only [ldR, Int.pow_zero]; omega
  | k + 1, hk => by
    have hp : (0 : Int) < 256 ^ k := Int.pow_pos (by omega)
    have hp1 : (256 : Int) ^ (k + 1) ≤ 18446744073709551616 := by
      have h1 : (256 : Nat) ^ (k + 1) ≤ 256 ^ 8 := Nat.pow_le_pow_right (by omega) hk
      have h2 : (256 : Nat) ^ 8 = 18446744073709551616 := by decide
      have h3 : ((256 ^ (k + 1) : Nat) : Int) = 256 ^ (k + 1) := by simp
      omega
    have e256 : (256 : Int) ^ k = 2 ^ (8 * k) := by rw [Int.pow_mul]; rfl
    have hb : stF n (8 * q + k) = n / 18446744073709551616 ^ q / 256 ^ k % 256 := by
      unfold stF
      have e : (256 : Int) ^ (8 * q + k) = 18446744073709551616 ^ q * 256 ^ k := by
        rw [Int.pow_add, Int.pow_mul]; rfl
      rw [e, ← Int.ediv_ediv_of_nonneg (Int.le_of_lt (Int.pow_pos (by omega)))]
    rw [ldR, orI_ld n q k (by omega), hb]
    generalize n / 18446744073709551616 ^ q = x
    have hw : IntKind.wrap .u64 (x / 256 ^ k % 256) = x / 256 ^ k % 256 := by rw [wrap_u64]; omega
    have hlt : x % 256 ^ k < 256 ^ k := Int.emod_lt_of_pos _ hp
    have hle : x % 256 ^ k + x / 256 ^ k % 256 * 256 ^ k < 18446744073709551616 := by
      have : x / 256 ^ k % 256 * 256 ^ k ≤ 255 * 256 ^ k := Int.mul_le_mul_of_nonneg_right (by omega) (by omega)
      have e : (256 : Int) ^ (k + 1) = 256 ^ k * 256 := Int.pow_succ _ _
      omega
    have hnn : 0 ≤ x % 256 ^ k := Int.emod_nonneg _ (by omega)
    have hnn2 : 0 ≤ x / 256 ^ k % 256 * 256 ^ k := Int.mul_nonneg (by omega) (by omega)
    have hs : shlI .u64 (x / 256 ^ k % 256) ((8 * k : Nat) : Int) = x / 256 ^ k % 256 * 2 ^ (8 * k) := by
      rw [shlU _ (8 * k) (by omega), ← e256, sm _ hnn2 (by omega)]
    rw [hw, hs, or_add _ _ (8 * k) hnn (by rw [← e256]; exact hlt) (by omega) (by rw [← e256]; exact hle), ← e256]
    have e : (256 : Int) ^ (k + 1) = 256 ^ k * 256 := Int.pow_succ _ _
    rw [e]
    have h1 : x / (256 ^ k * 256) = x / 256 ^ k / 256 := (Int.ediv_ediv_of_nonneg (Int.le_of_lt hp)).symm
    have h2 := Int.mul_ediv_add_emod x (256 ^ k)
    have h3 := Int.mul_ediv_add_emod x (256 ^ k * 256)
    have h4 := Int.mul_ediv_add_emod (x / 256 ^ k) 256
    rw [h1] at h3
    generalize (256 : Int) ^ k = p at *
    generalize x / p / 256 = u at *
    generalize x / p = y at *
    generalize y % 256 = z at *
    have e1 : p * 256 * u = 256 * u * p := by rw [Int.mul_assoc, Int.mul_comm]
    have e2 : p * y = 256 * u * p + z * p := by rw [← h4, Int.mul_add, Int.mul_comm p (256 * u), Int.mul_comm p z]
    omega
theorem num_st {n : Int} (h0 : 0 ≤ n) (h1 : n < 115792089237316195423570985008687907853269984665640564039457584007913129639936) : num (stF n) = n := by
  have h : ∀ j, j < 4 → loadO (stF n) j = wF n j := by
    intro j _
    rw [loadO_eq]
    unfold loadF wF
    rw [orI_ld n j 8 (by omega)]
    simp only [Int.reducePow]
  unfold num
  rw [lvn4, lv4_congr h, wF_v h0 h1]
theorem num_mod (n : Int) : num (stF (n % LL)) = n % LL := by
  have h := mod_nn n
  refine num_st h.1 ?_
  have := h.2
  unfold LL at this ⊢
  omega
end Go.Proofs.YtnoehjibponofaaDoor
