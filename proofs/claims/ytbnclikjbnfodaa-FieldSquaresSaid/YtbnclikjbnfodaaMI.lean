/-
  Rows of digits filled bit by bit; what FromBytes and Bytes of the document come to, and the program's Bytes. Conditions: none.
-/
import Derived.Test.YtbnclikjbnfodaaWJ
import Derived.Test.YtbnclikjbnfodaaMH
namespace Go.Num

/-- Digit j, of w bits, of the lowest k bits of N. -/
def dg (w : Nat) (N : Int) (k j : Nat) : Int := N % 2 ^ k / 2 ^ (w * j) % 2 ^ w

theorem dg_zero (w : Nat) (N : Int) (j : Nat) : dg w N 0 j = 0 := by simp [dg, Int.emod_one]

theorem pow_le' {a b : Nat} (h : a ≤ b) : (2 : Int) ^ a ≤ 2 ^ b := by
  have : 2 ^ a ≤ 2 ^ b := Nat.pow_le_pow_right (by omega) h
  exact_mod_cast this

theorem dg_here {w : Nat} (hw : 0 < w) (N : Int) (k : Nat) : dg w N k (k / w) = N % 2 ^ k / 2 ^ (w * (k / w)) ∧ 0 ≤ dg w N k (k / w) ∧ dg w N k (k / w) < 2 ^ (k % w) := by
  have hk : w * (k / w) + k % w = k := Nat.div_add_mod k w
  have hs : k % w < w := Nat.mod_lt _ hw
  have r0 := Int.emod_nonneg N (Int.ne_of_gt (pow_pos' (show (0 : Int) < 2 by omega) k))
  have r1 := Int.emod_lt_of_pos N (pow_pos' (show (0 : Int) < 2 by omega) k)
  have hp := pow_pos' (show (0 : Int) < 2 by omega) (w * (k / w))
  have e : (2 : Int) ^ k = 2 ^ (w * (k / w)) * 2 ^ (k % w) := by rw [← Int.pow_add, hk]
  have q0 : 0 ≤ N % 2 ^ k / 2 ^ (w * (k / w)) := Int.ediv_nonneg r0 (by omega)
  have q1 : N % 2 ^ k / 2 ^ (w * (k / w)) < 2 ^ (k % w) := Int.ediv_lt_of_lt_mul hp (by rw [Int.mul_comm, ← e]; exact r1)
  have hle := pow_le' (show k % w ≤ w by omega)
  have h : dg w N k (k / w) = N % 2 ^ k / 2 ^ (w * (k / w)) := by
    unfold dg; exact Int.emod_eq_of_lt q0 (by omega)
  exact ⟨h, by rw [h]; exact q0, by rw [h]; exact q1⟩

theorem dg_step {w : Nat} (hw : 0 < w) (N : Int) (k j : Nat) : dg w N (k + 1) j = if j = k / w then dg w N k j + N / 2 ^ k % 2 * 2 ^ (k % w) else dg w N k j := by
  have hk : w * (k / w) + k % w = k := Nat.div_add_mod k w
  have hs : k % w < w := Nat.mod_lt _ hw
  have e1 : N % 2 ^ (k + 1) = N % 2 ^ k + 2 ^ k * (N / 2 ^ k % 2) := by
    rw [Int.pow_succ]; exact (emod_mul' (pow_pos' (by omega) k) (by omega)).symm
  have ht : 0 ≤ N / 2 ^ k % 2 ∧ N / 2 ^ k % 2 ≤ 1 := by omega
  have r0 := Int.emod_nonneg N (Int.ne_of_gt (pow_pos' (show (0 : Int) < 2 by omega) k))
  have r1 := Int.emod_lt_of_pos N (pow_pos' (show (0 : Int) < 2 by omega) k)
  by_cases h : j = k / w
  · rw [if_pos h]
    obtain ⟨h1, h2, h3⟩ := dg_here hw N k
    rw [h, h1] at *
    rw [h1] at h2 h3
    unfold dg
    rw [e1]
    have e2 : (2 : Int) ^ k * (N / 2 ^ k % 2) = 2 ^ (w * (k / w)) * (N / 2 ^ k % 2 * 2 ^ (k % w)) := by
      have : (2 : Int) ^ k = 2 ^ (w * (k / w)) * 2 ^ (k % w) := by rw [← Int.pow_add, hk]
      generalize N / 2 ^ k % 2 = t
      rw [this, Int.mul_assoc, Int.mul_comm (2 ^ (k % w))]
    rw [e2, Int.add_mul_ediv_left _ _ (Int.ne_of_gt (pow_pos' (by omega) _))]
    refine Int.emod_eq_of_lt ?_ ?_
    · have := Int.mul_nonneg ht.1 (Int.le_of_lt (pow_pos' (show (0 : Int) < 2 by omega) (k % w)))
      omega
    · have h4 : N / 2 ^ k % 2 * 2 ^ (k % w) ≤ 2 ^ (k % w) := by
        have := Int.mul_le_mul_of_nonneg_right ht.2 (Int.le_of_lt (pow_pos' (show (0 : Int) < 2 by omega) (k % w)))
        omega
      have h5 := pow_le' (show k % w + 1 ≤ w by omega)
      rw [Int.pow_succ] at h5
      omega
  · rw [if_neg h]
    unfold dg
    rw [e1]
    by_cases hlt : j < k / w
    · have hle : w * j + w ≤ k := by
        have h1 : w * (j + 1) ≤ w * (k / w) := Nat.mul_le_mul_left w hlt
        rw [Nat.mul_succ] at h1; omega
      have e2 : (2 : Int) ^ k * (N / 2 ^ k % 2) = 2 ^ (w * j) * (2 ^ w * (2 ^ (k - (w * j + w)) * (N / 2 ^ k % 2))) := by
        have : (2 : Int) ^ k = 2 ^ (w * j) * (2 ^ w * 2 ^ (k - (w * j + w))) := by
          rw [← Int.pow_add, ← Int.pow_add, show w * j + (w + (k - (w * j + w))) = k by omega]
        generalize N / 2 ^ k % 2 = t
        rw [this, Int.mul_assoc, Int.mul_assoc]
      rw [e2, Int.add_mul_ediv_left _ _ (Int.ne_of_gt (pow_pos' (by omega) _)), Int.add_mul_emod_self_left]
    · have hgt : k + 1 ≤ w * j := by
        have h1 : w * (k / w + 1) ≤ w * j := Nat.mul_le_mul_left w (by omega)
        rw [Nat.mul_succ] at h1; omega
      have hp := pow_le' hgt
      rw [Int.pow_succ] at hp
      have hm : 2 ^ k * (N / 2 ^ k % 2) ≤ 2 ^ k := by
        have := Int.mul_le_mul_of_nonneg_left ht.2 (Int.le_of_lt (pow_pos' (show (0 : Int) < 2 by omega) k))
        omega
      have hm0 := Int.mul_nonneg (Int.le_of_lt (pow_pos' (show (0 : Int) < 2 by omega) k)) ht.1
      rw [Int.ediv_eq_zero_of_lt (by omega) (by omega), Int.ediv_eq_zero_of_lt r0 (by omega)]

/-- All the digits of the lowest k bits. -/
theorem dg_all {w n k : Nat} {N : Int} (hk : k ≤ w * n) : dv (2 ^ w) n (dg w N k) = N % 2 ^ k := by
  have e : dg w N k = fun j => (N % 2 ^ k) / (2 ^ w) ^ j % 2 ^ w := funext fun j => by unfold dg; rw [← Int.pow_mul]
  rw [e, dv_digits (pow_pos' (by omega) w), ← Int.pow_mul]
  have r0 := Int.emod_nonneg N (Int.ne_of_gt (pow_pos' (show (0 : Int) < 2 by omega) k))
  have r1 := Int.emod_lt_of_pos N (pow_pos' (show (0 : Int) < 2 by omega) k)
  have := pow_le' hk
  exact Int.emod_eq_of_lt r0 (by omega)
end Go.Num
namespace Go.Ev
theorem shrU8 (a : Int) (k : Nat) (hk : k ≤ 8) : shrI .u8 a (k : Int) = a / 2 ^ k := by
  unfold shrI
  rw [show min (Int.toNat (k : Int)) (IntKind.bits .u8) = k from Nat.min_eq_left hk]
  exact Int.fdiv_eq_ediv_of_nonneg _ (by exact_mod_cast Nat.zero_le (2 ^ k))
theorem shlU8 (a : Int) (k : Nat) (hk : k ≤ 8) : shlI .u8 a (k : Int) = (a * 2 ^ k) % 256 := by
  unfold shlI
  rw [show min (Int.toNat (k : Int)) (IntKind.bits .u8) = k from Nat.min_eq_left hk]
  exact wrap_u8 _
theorem addU8 (a b : Int) : addI .u8 a b = (a + b) % 256 := wrap_u8 _
theorem and8_1 (a : Int) : andI .u8 a 1 = a % 2 := by
  unfold andI bits2
  have e1 : (BitVec.ofInt (IntKind.bits .u8) a).toNat = (a % 256).toNat := by rw [BitVec.toNat_ofInt]; rfl
  have e2 : (BitVec.ofInt (IntKind.bits .u8) 1).toNat = 2 ^ 1 - 1 := by decide
  rw [BitVec.toNat_and, e1, e2, Nat.and_two_pow_sub_one_eq_mod, wrap_u8]
  omega
end Go.Ev
namespace Go.Proofs.Ytbnclikjbnfodaa
open Go.Ev Go.Num

theorem e26 : (67108864 : Int) = 2 ^ 26 := by decide
theorem e8 : (256 : Int) = 2 ^ 8 := by decide

theorem fb_it {b : Nat → Int} (h : B32 b) : ∀ k, k ≤ 255 → ∀ j, j < 10 → rFromBytes_it b k j = dg 26 (vb b) k j
  | 0, _, j, _ => by rw [dg_zero]; rfl
  | k + 1, hk, j, hj => by
    have ih := fb_it h k (by omega)
    show rFromBytes_st b (k : Int) (rFromBytes_it b k) j = _
    unfold rFromBytes_st
    rw [show quoI .i64 (k : Int) 26 = ((k / 26 : Nat) : Int) from quo_nat k 26 (by omega), show quoI .i64 (k : Int) 8 = ((k / 8 : Nat) : Int) from quo_nat k 8 (by omega), show remI (k : Int) 8 = ((k % 8 : Nat) : Int) from rem_nat k 8, show remI (k : Int) 26 = ((k % 26 : Nat) : Int) from rem_nat k 26]
    simp only [Int.toNat_natCast, Nat.mul_one, Nat.zero_add]
    rw [up_at, dg_step (by omega)]
    split
    · rename_i e
      subst e
      obtain ⟨h1, h2, h3⟩ := dg_here (w := 26) (by omega) (vb b) k
      have hbit : andI .u8 (shrI .u8 (b (k / 8)) ((k % 8 : Nat) : Int)) 1 = vb b / 2 ^ k % 2 := by
        rw [and8_1, shrU8 _ _ (by omega)]
        have := digit_bit (k := 8) (a := b) (n := 32) (m := k / 8) (r := k % 8) (fun i hi => by rw [← e8]; exact h i hi) (by omega) (by omega)
        rw [Nat.div_add_mod, ← e8] at this
        exact this.symm
      rw [hbit, ih _ hj, wrap_u64, sm' (vb b / 2 ^ k % 2) (by omega) (by omega), shlU _ _ (by omega)]
      have hp := pow_le' (show k % 26 ≤ 25 by omega)
      have e25 : (2 : Int) ^ 25 = 33554432 := by decide
      have hp0 := pow_pos' (show (0 : Int) < 2 by omega) (k % 26)
      have ht : 0 ≤ vb b / 2 ^ k % 2 ∧ vb b / 2 ^ k % 2 ≤ 1 := by omega
      generalize vb b / 2 ^ k % 2 = t at *
      have hm : 0 ≤ t * 2 ^ (k % 26) ∧ t * 2 ^ (k % 26) ≤ 33554432 := by
        have h01 : t = 0 ∨ t = 1 := by omega
        rcases h01 with rfl | rfl <;> omega
      rw [sm' (t * 2 ^ (k % 26)) (by omega) (by omega), addU, sm' _ (by omega) (by omega)]
    · exact ih j hj

theorem rFromBytes_v {b : Nat → Int} (h : B32 b) : v10 (rFromBytes b) = vb b % 57896044618658097711785492504343953926634992332820282019728792003956564819968 % p ∧ D10 (rFromBytes b) := by
  have hd : ∀ j, j < 10 → 0 ≤ rFromBytes_it b 255 j ∧ rFromBytes_it b 255 j < 67108864 := fun j hj => by
    rw [fb_it h 255 (by omega) j hj]; unfold dg; rw [← e26]; omega
  have hl := least_nf (f := rFromBytes_it b 255) (fun j hj => by have := hd j hj; omega)
  have hv : v10 (rFromBytes_it b 255) = vb b % 57896044618658097711785492504343953926634992332820282019728792003956564819968 := by
    have e : v10 (rFromBytes_it b 255) = dv 67108864 10 (dg 26 (vb b) 255) := dv_congr fun j hj => fb_it h 255 (by omega) j hj
    rw [e, e26, dg_all (by omega)]
    rfl
  rw [hv] at hl
  exact hl

theorem tb_it {a : Nat → Int} (h : D10 a) : ∀ k, k ≤ 255 → ∀ j, j < 32 → rBytes_it a k j = dg 8 (v10 a) k j
  | 0, _, j, _ => by rw [dg_zero]; rfl
  | k + 1, hk, j, hj => by
    have ih := tb_it h k (by omega)
    show rBytes_st a (k : Int) (rBytes_it a k) j = _
    unfold rBytes_st
    rw [show quoI .i64 (k : Int) 26 = ((k / 26 : Nat) : Int) from quo_nat k 26 (by omega), show quoI .i64 (k : Int) 8 = ((k / 8 : Nat) : Int) from quo_nat k 8 (by omega), show remI (k : Int) 8 = ((k % 8 : Nat) : Int) from rem_nat k 8, show remI (k : Int) 26 = ((k % 26 : Nat) : Int) from rem_nat k 26]
    simp only [Int.toNat_natCast, Nat.mul_one, Nat.zero_add]
    rw [up_at, dg_step (by omega)]
    split
    · rename_i e
      subst e
      obtain ⟨h1, h2, h3⟩ := dg_here (w := 8) (by omega) (v10 a) k
      have hbit : andI .u64 (shrI .u64 (a (k / 26)) ((k % 26 : Nat) : Int)) 1 = v10 a / 2 ^ k % 2 := by
        rw [and1, shrU _ _ (by omega)]
        have := digit_bit (k := 26) (a := a) (n := 10) (m := k / 26) (r := k % 26) (fun i hi => by rw [← e26]; exact h.dig i hi) (by omega) (by omega)
        rw [Nat.div_add_mod, ← e26] at this
        exact this.symm
      rw [hbit, ih _ hj, wrap_u8, Int.emod_eq_of_lt (a := v10 a / 2 ^ k % 2) (by omega) (by omega), shlU8 _ _ (by omega)]
      have hp := pow_le' (show k % 8 ≤ 7 by omega)
      have e7 : (2 : Int) ^ 7 = 128 := by decide
      have hp0 := pow_pos' (show (0 : Int) < 2 by omega) (k % 8)
      have ht : 0 ≤ v10 a / 2 ^ k % 2 ∧ v10 a / 2 ^ k % 2 ≤ 1 := by omega
      generalize v10 a / 2 ^ k % 2 = t at *
      have hm : 0 ≤ t * 2 ^ (k % 8) ∧ t * 2 ^ (k % 8) ≤ 128 := by
        have h01 : t = 0 ∨ t = 1 := by omega
        rcases h01 with rfl | rfl <;> omega
      rw [Int.emod_eq_of_lt (a := t * 2 ^ (k % 8)) (by omega) (by omega), addU8, Int.emod_eq_of_lt (by omega) (by omega)]
    · exact ih j hj

theorem rBytes_v {a : Nat → Int} (h : D10 a) : ∀ j, j < 32 → rBytes a j = v10 a / 256 ^ j % 256 := by
  intro j hj
  show rBytes_it a 255 j = _
  rw [tb_it h 255 (by omega) j hj]
  unfold dg
  have hl := h.lt
  have e : v10 a % 2 ^ 255 = v10 a := Int.emod_eq_of_lt h.nonneg (by
    have : (2 : Int) ^ 255 = p + 19 := by decide
    omega)
  rw [e, e8, ← Int.pow_mul]

theorem byte_at0 {r : Nat → Int} (hr : ∀ j, j < 5 → 0 ≤ r j ∧ r j < 2251799813685248) : IntKind.wrap .u8 (shrI .u64 (r 0) 0) = v5 r / 1 % 256 := by
  have g0 := hr 0 (by omega); have g1 := hr 1 (by omega); have g2 := hr 2 (by omega); have g3 := hr 3 (by omega); have g4 := hr 4 (by omega)
  rw [show shrI .u64 (r 0) 0 = r 0 / 1 from shrU _ 0 (by omega)]
  rw [wrap_u8, v5_eq]
  omega
theorem byte_at1 {r : Nat → Int} (hr : ∀ j, j < 5 → 0 ≤ r j ∧ r j < 2251799813685248) : IntKind.wrap .u8 (shrI .u64 (r 0) 8) = v5 r / 256 % 256 := by
  have g0 := hr 0 (by omega); have g1 := hr 1 (by omega); have g2 := hr 2 (by omega); have g3 := hr 3 (by omega); have g4 := hr 4 (by omega)
  rw [show shrI .u64 (r 0) 8 = r 0 / 256 from shrU _ 8 (by omega)]
  rw [wrap_u8, v5_eq]
  omega
theorem byte_at2 {r : Nat → Int} (hr : ∀ j, j < 5 → 0 ≤ r j ∧ r j < 2251799813685248) : IntKind.wrap .u8 (shrI .u64 (r 0) 16) = v5 r / 65536 % 256 := by
  have g0 := hr 0 (by omega); have g1 := hr 1 (by omega); have g2 := hr 2 (by omega); have g3 := hr 3 (by omega); have g4 := hr 4 (by omega)
  rw [show shrI .u64 (r 0) 16 = r 0 / 65536 from shrU _ 16 (by omega)]
  rw [wrap_u8, v5_eq]
  omega
theorem byte_at3 {r : Nat → Int} (hr : ∀ j, j < 5 → 0 ≤ r j ∧ r j < 2251799813685248) : IntKind.wrap .u8 (shrI .u64 (r 0) 24) = v5 r / 16777216 % 256 := by
  have g0 := hr 0 (by omega); have g1 := hr 1 (by omega); have g2 := hr 2 (by omega); have g3 := hr 3 (by omega); have g4 := hr 4 (by omega)
  rw [show shrI .u64 (r 0) 24 = r 0 / 16777216 from shrU _ 24 (by omega)]
  rw [wrap_u8, v5_eq]
  omega
theorem byte_at4 {r : Nat → Int} (hr : ∀ j, j < 5 → 0 ≤ r j ∧ r j < 2251799813685248) : IntKind.wrap .u8 (shrI .u64 (r 0) 32) = v5 r / 4294967296 % 256 := by
  have g0 := hr 0 (by omega); have g1 := hr 1 (by omega); have g2 := hr 2 (by omega); have g3 := hr 3 (by omega); have g4 := hr 4 (by omega)
  rw [show shrI .u64 (r 0) 32 = r 0 / 4294967296 from shrU _ 32 (by omega)]
  rw [wrap_u8, v5_eq]
  omega
theorem byte_at5 {r : Nat → Int} (hr : ∀ j, j < 5 → 0 ≤ r j ∧ r j < 2251799813685248) : IntKind.wrap .u8 (shrI .u64 (r 0) 40) = v5 r / 1099511627776 % 256 := by
  have g0 := hr 0 (by omega); have g1 := hr 1 (by omega); have g2 := hr 2 (by omega); have g3 := hr 3 (by omega); have g4 := hr 4 (by omega)
  rw [show shrI .u64 (r 0) 40 = r 0 / 1099511627776 from shrU _ 40 (by omega)]
  rw [wrap_u8, v5_eq]
  omega
theorem byte_at6 {r : Nat → Int} (hr : ∀ j, j < 5 → 0 ≤ r j ∧ r j < 2251799813685248) : IntKind.wrap .u8 (orI .u64 (shrI .u64 (r 0) 48) (shlI .u64 (r 1) 3)) = v5 r / 281474976710656 % 256 := by
  have g0 := hr 0 (by omega); have g1 := hr 1 (by omega); have g2 := hr 2 (by omega); have g3 := hr 3 (by omega); have g4 := hr 4 (by omega)
  have h1 := hr 0 (by omega); have h2 := hr 1 (by omega)
  rw [show shrI .u64 (r 0) 48 = r 0 / 281474976710656 from shrU _ 48 (by omega)]
  rw [show shlI .u64 (r 1) 3 = (r 1 * 8) % 18446744073709551616 from shlU _ 3 (by omega)]
  rw [sm' (r 1 * 8) (by omega) (by omega)]
  rw [show (r 1 * 8 : Int) = r 1 * 2 ^ 3 from rfl, or_add 3 (by omega) (by show r 0 / 281474976710656 < 2 ^ 3; omega) (by omega) (by omega)]
  rw [wrap_u8, v5_eq]
  omega
theorem byte_at7 {r : Nat → Int} (hr : ∀ j, j < 5 → 0 ≤ r j ∧ r j < 2251799813685248) : IntKind.wrap .u8 (shrI .u64 (r 1) 5) = v5 r / 72057594037927936 % 256 := by
  have g0 := hr 0 (by omega); have g1 := hr 1 (by omega); have g2 := hr 2 (by omega); have g3 := hr 3 (by omega); have g4 := hr 4 (by omega)
  rw [show shrI .u64 (r 1) 5 = r 1 / 32 from shrU _ 5 (by omega)]
  rw [wrap_u8, v5_eq]
  omega
theorem byte_at8 {r : Nat → Int} (hr : ∀ j, j < 5 → 0 ≤ r j ∧ r j < 2251799813685248) : IntKind.wrap .u8 (shrI .u64 (r 1) 13) = v5 r / 18446744073709551616 % 256 := by
  have g0 := hr 0 (by omega); have g1 := hr 1 (by omega); have g2 := hr 2 (by omega); have g3 := hr 3 (by omega); have g4 := hr 4 (by omega)
  rw [show shrI .u64 (r 1) 13 = r 1 / 8192 from shrU _ 13 (by omega)]
  rw [wrap_u8, v5_eq]
  omega
theorem byte_at9 {r : Nat → Int} (hr : ∀ j, j < 5 → 0 ≤ r j ∧ r j < 2251799813685248) : IntKind.wrap .u8 (shrI .u64 (r 1) 21) = v5 r / 4722366482869645213696 % 256 := by
  have g0 := hr 0 (by omega); have g1 := hr 1 (by omega); have g2 := hr 2 (by omega); have g3 := hr 3 (by omega); have g4 := hr 4 (by omega)
  rw [show shrI .u64 (r 1) 21 = r 1 / 2097152 from shrU _ 21 (by omega)]
  rw [wrap_u8, v5_eq]
  omega
theorem byte_at10 {r : Nat → Int} (hr : ∀ j, j < 5 → 0 ≤ r j ∧ r j < 2251799813685248) : IntKind.wrap .u8 (shrI .u64 (r 1) 29) = v5 r / 1208925819614629174706176 % 256 := by
  have g0 := hr 0 (by omega); have g1 := hr 1 (by omega); have g2 := hr 2 (by omega); have g3 := hr 3 (by omega); have g4 := hr 4 (by omega)
  rw [show shrI .u64 (r 1) 29 = r 1 / 536870912 from shrU _ 29 (by omega)]
  rw [wrap_u8, v5_eq]
  omega
theorem byte_at11 {r : Nat → Int} (hr : ∀ j, j < 5 → 0 ≤ r j ∧ r j < 2251799813685248) : IntKind.wrap .u8 (shrI .u64 (r 1) 37) = v5 r / 309485009821345068724781056 % 256 := by
  have g0 := hr 0 (by omega); have g1 := hr 1 (by omega); have g2 := hr 2 (by omega); have g3 := hr 3 (by omega); have g4 := hr 4 (by omega)
  rw [show shrI .u64 (r 1) 37 = r 1 / 137438953472 from shrU _ 37 (by omega)]
  rw [wrap_u8, v5_eq]
  omega
theorem byte_at12 {r : Nat → Int} (hr : ∀ j, j < 5 → 0 ≤ r j ∧ r j < 2251799813685248) : IntKind.wrap .u8 (orI .u64 (shrI .u64 (r 1) 45) (shlI .u64 (r 2) 6)) = v5 r / 79228162514264337593543950336 % 256 := by
  have g0 := hr 0 (by omega); have g1 := hr 1 (by omega); have g2 := hr 2 (by omega); have g3 := hr 3 (by omega); have g4 := hr 4 (by omega)
  have h1 := hr 1 (by omega); have h2 := hr 2 (by omega)
  rw [show shrI .u64 (r 1) 45 = r 1 / 35184372088832 from shrU _ 45 (by omega)]
  rw [show shlI .u64 (r 2) 6 = (r 2 * 64) % 18446744073709551616 from shlU _ 6 (by omega)]
  rw [sm' (r 2 * 64) (by omega) (by omega)]
  rw [show (r 2 * 64 : Int) = r 2 * 2 ^ 6 from rfl, or_add 6 (by omega) (by show r 1 / 35184372088832 < 2 ^ 6; omega) (by omega) (by omega)]
  rw [wrap_u8, v5_eq]
  omega
theorem byte_at13 {r : Nat → Int} (hr : ∀ j, j < 5 → 0 ≤ r j ∧ r j < 2251799813685248) : IntKind.wrap .u8 (shrI .u64 (r 2) 2) = v5 r / 20282409603651670423947251286016 % 256 := by
  have g0 := hr 0 (by omega); have g1 := hr 1 (by omega); have g2 := hr 2 (by omega); have g3 := hr 3 (by omega); have g4 := hr 4 (by omega)
  rw [show shrI .u64 (r 2) 2 = r 2 / 4 from shrU _ 2 (by omega)]
  rw [wrap_u8, v5_eq]
  omega
theorem byte_at14 {r : Nat → Int} (hr : ∀ j, j < 5 → 0 ≤ r j ∧ r j < 2251799813685248) : IntKind.wrap .u8 (shrI .u64 (r 2) 10) = v5 r / 5192296858534827628530496329220096 % 256 := by
  have g0 := hr 0 (by omega); have g1 := hr 1 (by omega); have g2 := hr 2 (by omega); have g3 := hr 3 (by omega); have g4 := hr 4 (by omega)
  rw [show shrI .u64 (r 2) 10 = r 2 / 1024 from shrU _ 10 (by omega)]
  rw [wrap_u8, v5_eq]
  omega
theorem byte_at15 {r : Nat → Int} (hr : ∀ j, j < 5 → 0 ≤ r j ∧ r j < 2251799813685248) : IntKind.wrap .u8 (shrI .u64 (r 2) 18) = v5 r / 1329227995784915872903807060280344576 % 256 := by
  have g0 := hr 0 (by omega); have g1 := hr 1 (by omega); have g2 := hr 2 (by omega); have g3 := hr 3 (by omega); have g4 := hr 4 (by omega)
  rw [show shrI .u64 (r 2) 18 = r 2 / 262144 from shrU _ 18 (by omega)]
  rw [wrap_u8, v5_eq]
  omega
theorem byte_at16 {r : Nat → Int} (hr : ∀ j, j < 5 → 0 ≤ r j ∧ r j < 2251799813685248) : IntKind.wrap .u8 (shrI .u64 (r 2) 26) = v5 r / 340282366920938463463374607431768211456 % 256 := by
  have g0 := hr 0 (by omega); have g1 := hr 1 (by omega); have g2 := hr 2 (by omega); have g3 := hr 3 (by omega); have g4 := hr 4 (by omega)
  rw [show shrI .u64 (r 2) 26 = r 2 / 67108864 from shrU _ 26 (by omega)]
  rw [wrap_u8, v5_eq]
  omega
theorem byte_at17 {r : Nat → Int} (hr : ∀ j, j < 5 → 0 ≤ r j ∧ r j < 2251799813685248) : IntKind.wrap .u8 (shrI .u64 (r 2) 34) = v5 r / 87112285931760246646623899502532662132736 % 256 := by
  have g0 := hr 0 (by omega); have g1 := hr 1 (by omega); have g2 := hr 2 (by omega); have g3 := hr 3 (by omega); have g4 := hr 4 (by omega)
  rw [show shrI .u64 (r 2) 34 = r 2 / 17179869184 from shrU _ 34 (by omega)]
  rw [wrap_u8, v5_eq]
  omega
theorem byte_at18 {r : Nat → Int} (hr : ∀ j, j < 5 → 0 ≤ r j ∧ r j < 2251799813685248) : IntKind.wrap .u8 (shrI .u64 (r 2) 42) = v5 r / 22300745198530623141535718272648361505980416 % 256 := by
  have g0 := hr 0 (by omega); have g1 := hr 1 (by omega); have g2 := hr 2 (by omega); have g3 := hr 3 (by omega); have g4 := hr 4 (by omega)
  rw [show shrI .u64 (r 2) 42 = r 2 / 4398046511104 from shrU _ 42 (by omega)]
  rw [wrap_u8, v5_eq]
  omega
theorem byte_at19 {r : Nat → Int} (hr : ∀ j, j < 5 → 0 ≤ r j ∧ r j < 2251799813685248) : IntKind.wrap .u8 (orI .u64 (shrI .u64 (r 2) 50) (shlI .u64 (r 3) 1)) = v5 r / 5708990770823839524233143877797980545530986496 % 256 := by
  have g0 := hr 0 (by omega); have g1 := hr 1 (by omega); have g2 := hr 2 (by omega); have g3 := hr 3 (by omega); have g4 := hr 4 (by omega)
  have h1 := hr 2 (by omega); have h2 := hr 3 (by omega)
  rw [show shrI .u64 (r 2) 50 = r 2 / 1125899906842624 from shrU _ 50 (by omega)]
  rw [show shlI .u64 (r 3) 1 = (r 3 * 2) % 18446744073709551616 from shlU _ 1 (by omega)]
  rw [sm' (r 3 * 2) (by omega) (by omega)]
  rw [show (r 3 * 2 : Int) = r 3 * 2 ^ 1 from rfl, or_add 1 (by omega) (by show r 2 / 1125899906842624 < 2 ^ 1; omega) (by omega) (by omega)]
  rw [wrap_u8, v5_eq]
  omega
theorem byte_at20 {r : Nat → Int} (hr : ∀ j, j < 5 → 0 ≤ r j ∧ r j < 2251799813685248) : IntKind.wrap .u8 (shrI .u64 (r 3) 7) = v5 r / 1461501637330902918203684832716283019655932542976 % 256 := by
  have g0 := hr 0 (by omega); have g1 := hr 1 (by omega); have g2 := hr 2 (by omega); have g3 := hr 3 (by omega); have g4 := hr 4 (by omega)
  rw [show shrI .u64 (r 3) 7 = r 3 / 128 from shrU _ 7 (by omega)]
  rw [wrap_u8, v5_eq]
  omega
theorem byte_at21 {r : Nat → Int} (hr : ∀ j, j < 5 → 0 ≤ r j ∧ r j < 2251799813685248) : IntKind.wrap .u8 (shrI .u64 (r 3) 15) = v5 r / 374144419156711147060143317175368453031918731001856 % 256 := by
  have g0 := hr 0 (by omega); have g1 := hr 1 (by omega); have g2 := hr 2 (by omega); have g3 := hr 3 (by omega); have g4 := hr 4 (by omega)
  rw [show shrI .u64 (r 3) 15 = r 3 / 32768 from shrU _ 15 (by omega)]
  rw [wrap_u8, v5_eq]
  omega
theorem byte_at22 {r : Nat → Int} (hr : ∀ j, j < 5 → 0 ≤ r j ∧ r j < 2251799813685248) : IntKind.wrap .u8 (shrI .u64 (r 3) 23) = v5 r / 95780971304118053647396689196894323976171195136475136 % 256 := by
  have g0 := hr 0 (by omega); have g1 := hr 1 (by omega); have g2 := hr 2 (by omega); have g3 := hr 3 (by omega); have g4 := hr 4 (by omega)
  rw [show shrI .u64 (r 3) 23 = r 3 / 8388608 from shrU _ 23 (by omega)]
  rw [wrap_u8, v5_eq]
  omega
theorem byte_at23 {r : Nat → Int} (hr : ∀ j, j < 5 → 0 ≤ r j ∧ r j < 2251799813685248) : IntKind.wrap .u8 (shrI .u64 (r 3) 31) = v5 r / 24519928653854221733733552434404946937899825954937634816 % 256 := by
  have g0 := hr 0 (by omega); have g1 := hr 1 (by omega); have g2 := hr 2 (by omega); have g3 := hr 3 (by omega); have g4 := hr 4 (by omega)
  rw [show shrI .u64 (r 3) 31 = r 3 / 2147483648 from shrU _ 31 (by omega)]
  rw [wrap_u8, v5_eq]
  omega
theorem byte_at24 {r : Nat → Int} (hr : ∀ j, j < 5 → 0 ≤ r j ∧ r j < 2251799813685248) : IntKind.wrap .u8 (shrI .u64 (r 3) 39) = v5 r / 6277101735386680763835789423207666416102355444464034512896 % 256 := by
  have g0 := hr 0 (by omega); have g1 := hr 1 (by omega); have g2 := hr 2 (by omega); have g3 := hr 3 (by omega); have g4 := hr 4 (by omega)
  rw [show shrI .u64 (r 3) 39 = r 3 / 549755813888 from shrU _ 39 (by omega)]
  rw [wrap_u8, v5_eq]
  omega
theorem byte_at25 {r : Nat → Int} (hr : ∀ j, j < 5 → 0 ≤ r j ∧ r j < 2251799813685248) : IntKind.wrap .u8 (orI .u64 (shrI .u64 (r 3) 47) (shlI .u64 (r 4) 4)) = v5 r / 1606938044258990275541962092341162602522202993782792835301376 % 256 := by
  have g0 := hr 0 (by omega); have g1 := hr 1 (by omega); have g2 := hr 2 (by omega); have g3 := hr 3 (by omega); have g4 := hr 4 (by omega)
  have h1 := hr 3 (by omega); have h2 := hr 4 (by omega)
  rw [show shrI .u64 (r 3) 47 = r 3 / 140737488355328 from shrU _ 47 (by omega)]
  rw [show shlI .u64 (r 4) 4 = (r 4 * 16) % 18446744073709551616 from shlU _ 4 (by omega)]
  rw [sm' (r 4 * 16) (by omega) (by omega)]
  rw [show (r 4 * 16 : Int) = r 4 * 2 ^ 4 from rfl, or_add 4 (by omega) (by show r 3 / 140737488355328 < 2 ^ 4; omega) (by omega) (by omega)]
  rw [wrap_u8, v5_eq]
  omega
theorem byte_at26 {r : Nat → Int} (hr : ∀ j, j < 5 → 0 ≤ r j ∧ r j < 2251799813685248) : IntKind.wrap .u8 (shrI .u64 (r 4) 4) = v5 r / 411376139330301510538742295639337626245683966408394965837152256 % 256 := by
  have g0 := hr 0 (by omega); have g1 := hr 1 (by omega); have g2 := hr 2 (by omega); have g3 := hr 3 (by omega); have g4 := hr 4 (by omega)
  rw [show shrI .u64 (r 4) 4 = r 4 / 16 from shrU _ 4 (by omega)]
  rw [wrap_u8, v5_eq]
  omega
theorem byte_at27 {r : Nat → Int} (hr : ∀ j, j < 5 → 0 ≤ r j ∧ r j < 2251799813685248) : IntKind.wrap .u8 (shrI .u64 (r 4) 12) = v5 r / 105312291668557186697918027683670432318895095400549111254310977536 % 256 := by
  have g0 := hr 0 (by omega); have g1 := hr 1 (by omega); have g2 := hr 2 (by omega); have g3 := hr 3 (by omega); have g4 := hr 4 (by omega)
  rw [show shrI .u64 (r 4) 12 = r 4 / 4096 from shrU _ 12 (by omega)]
  rw [wrap_u8, v5_eq]
  omega
theorem byte_at28 {r : Nat → Int} (hr : ∀ j, j < 5 → 0 ≤ r j ∧ r j < 2251799813685248) : IntKind.wrap .u8 (shrI .u64 (r 4) 20) = v5 r / 26959946667150639794667015087019630673637144422540572481103610249216 % 256 := by
  have g0 := hr 0 (by omega); have g1 := hr 1 (by omega); have g2 := hr 2 (by omega); have g3 := hr 3 (by omega); have g4 := hr 4 (by omega)
  rw [show shrI .u64 (r 4) 20 = r 4 / 1048576 from shrU _ 20 (by omega)]
  rw [wrap_u8, v5_eq]
  omega
theorem byte_at29 {r : Nat → Int} (hr : ∀ j, j < 5 → 0 ≤ r j ∧ r j < 2251799813685248) : IntKind.wrap .u8 (shrI .u64 (r 4) 28) = v5 r / 6901746346790563787434755862277025452451108972170386555162524223799296 % 256 := by
  have g0 := hr 0 (by omega); have g1 := hr 1 (by omega); have g2 := hr 2 (by omega); have g3 := hr 3 (by omega); have g4 := hr 4 (by omega)
  rw [show shrI .u64 (r 4) 28 = r 4 / 268435456 from shrU _ 28 (by omega)]
  rw [wrap_u8, v5_eq]
  omega
theorem byte_at30 {r : Nat → Int} (hr : ∀ j, j < 5 → 0 ≤ r j ∧ r j < 2251799813685248) : IntKind.wrap .u8 (shrI .u64 (r 4) 36) = v5 r / 1766847064778384329583297500742918515827483896875618958121606201292619776 % 256 := by
  have g0 := hr 0 (by omega); have g1 := hr 1 (by omega); have g2 := hr 2 (by omega); have g3 := hr 3 (by omega); have g4 := hr 4 (by omega)
  rw [show shrI .u64 (r 4) 36 = r 4 / 68719476736 from shrU _ 36 (by omega)]
  rw [wrap_u8, v5_eq]
  omega
theorem byte_at31 {r : Nat → Int} (hr : ∀ j, j < 5 → 0 ≤ r j ∧ r j < 2251799813685248) : IntKind.wrap .u8 (shrI .u64 (r 4) 44) = v5 r / 452312848583266388373324160190187140051835877600158453279131187530910662656 % 256 := by
  have g0 := hr 0 (by omega); have g1 := hr 1 (by omega); have g2 := hr 2 (by omega); have g3 := hr 3 (by omega); have g4 := hr 4 (by omega)
  rw [show shrI .u64 (r 4) 44 = r 4 / 17592186044416 from shrU _ 44 (by omega)]
  rw [wrap_u8, v5_eq]
  omega

theorem thirtytwo {P : Nat → Prop} (h : P 0 ∧ P 1 ∧ P 2 ∧ P 3 ∧ P 4 ∧ P 5 ∧ P 6 ∧ P 7 ∧ P 8 ∧ P 9 ∧ P 10 ∧ P 11 ∧ P 12 ∧ P 13 ∧ P 14 ∧ P 15 ∧ P 16 ∧ P 17 ∧ P 18 ∧ P 19 ∧ P 20 ∧ P 21 ∧ P 22 ∧ P 23 ∧ P 24 ∧ P 25 ∧ P 26 ∧ P 27 ∧ P 28 ∧ P 29 ∧ P 30 ∧ P 31) : ∀ j, j < 32 → P j := by
  intro j hj
  obtain ⟨h0, h1, h2, h3, h4, h5, h6, h7, h8, h9, h10, h11, h12, h13, h14, h15, h16, h17, h18, h19, h20, h21, h22, h23, h24, h25, h26, h27, h28, h29, h30, h31⟩ := h
  have h : j = 0 ∨ j = 1 ∨ j = 2 ∨ j = 3 ∨ j = 4 ∨ j = 5 ∨ j = 6 ∨ j = 7 ∨ j = 8 ∨ j = 9 ∨ j = 10 ∨ j = 11 ∨ j = 12 ∨ j = 13 ∨ j = 14 ∨ j = 15 ∨ j = 16 ∨ j = 17 ∨ j = 18 ∨ j = 19 ∨ j = 20 ∨ j = 21 ∨ j = 22 ∨ j = 23 ∨ j = 24 ∨ j = 25 ∨ j = 26 ∨ j = 27 ∨ j = 28 ∨ j = 29 ∨ j = 30 ∨ j = 31 := by omega
  rcases h with rfl | rfl | rfl | rfl | rfl | rfl | rfl | rfl | rfl | rfl | rfl | rfl | rfl | rfl | rfl | rfl | rfl | rfl | rfl | rfl | rfl | rfl | rfl | rfl | rfl | rfl | rfl | rfl | rfl | rfl | rfl | rfl <;> assumption

theorem bytes_v {x : Nat → Int} (h : U5 x) : ∀ j, j < 32 → bytesF x j = v5 x % p / 256 ^ j % 256 := by
  obtain ⟨r1, r2⟩ := reduce_v h
  rw [← r1]
  exact thirtytwo (P := fun j => bytesF x j = v5 (reduceF x) / 256 ^ j % 256) ⟨byte_at0 r2.lim, byte_at1 r2.lim, byte_at2 r2.lim, byte_at3 r2.lim, byte_at4 r2.lim, byte_at5 r2.lim, byte_at6 r2.lim, byte_at7 r2.lim, byte_at8 r2.lim, byte_at9 r2.lim, byte_at10 r2.lim, byte_at11 r2.lim, byte_at12 r2.lim, byte_at13 r2.lim, byte_at14 r2.lim, byte_at15 r2.lim, byte_at16 r2.lim, byte_at17 r2.lim, byte_at18 r2.lim, byte_at19 r2.lim, byte_at20 r2.lim, byte_at21 r2.lim, byte_at22 r2.lim, byte_at23 r2.lim, byte_at24 r2.lim, byte_at25 r2.lim, byte_at26 r2.lim, byte_at27 r2.lim, byte_at28 r2.lim, byte_at29 r2.lim, byte_at30 r2.lim, byte_at31 r2.lim⟩
end Go.Proofs.Ytbnclikjbnfodaa
