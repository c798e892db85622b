/-
  A part of the groundwork of this seat's claims: an evaluator over the program, walks, and plain mathematics. Conditions: none.
-/
import Derived.Test.YtbnclikjbnfodaaY03
/-
  Rows of digits filled bit by bit; what FromBytes and Bytes of the document come to, and the program's Bytes. Conditions: none.
-/
namespace Go.Num

/-- Digit j, of w bits, of the lowest k bits of N. -/
def dg (w : Nat) (N : Int) (k j : Nat) : Int := N % 2 ^ k / 2 ^ (w * j) % 2 ^ w

theorem dg_zero (w : Nat) (N : Int) (j : Nat) : dg w N 0 j = 0 := by simp [dg, Int.emod_one]

theorem pow_le' {a b : Nat} (h : a ≤ b) : (2 : Int) ^ a ≤ 2 ^ b := by
  have : 2 ^ a ≤ 2 ^ b := Nat.pow_le_pow_right (by omega) h
  exact_mod_cast this

theorem dg_here {w : Nat} (hw : 0 < w) (N : Int) (k : Nat) : dg w N k (k / w) = N % 2 ^ k / 2 ^ (w * (k / w)) ∧ 0 ≤ dg w N k (k / w) ∧ dg w N k (k / w) < 2 ^ (k % w) := by
  have hk : w * (k / w) + k % w = k := Nat.div_add_mod k w
  have hs : k % w < w := Nat.mod_lt _ hw
  have r0 := Int.emod_nonneg N (Int.ne_of_gt (pow_pos' (show (0 : Int) < 2 by omega) k))
  have r1 := Int.emod_lt_of_pos N (pow_pos' (show (0 : Int) < 2 by omega) k)
  have hp := pow_pos' (show (0 : Int) < 2 by omega) (w * (k / w))
  have e : (2 : Int) ^ k = 2 ^ (w * (k / w)) * 2 ^ (k % w) := by rw [← Int.pow_add, hk]
  have q0 : 0 ≤ N % 2 ^ k / 2 ^ (w * (k / w)) := Int.ediv_nonneg r0 (by omega)
  have q1 : N % 2 ^ k / 2 ^ (w * (k / w)) < 2 ^ (k % w) := Int.ediv_lt_of_lt_mul hp (by rw [Int.mul_comm, ← e]; exact r1)
  have hle := pow_le' (show k % w ≤ w by omega)
  have h : dg w N k (k / w) = N % 2 ^ k / 2 ^ (w * (k / w)) := by
    unfold dg; exact Int.emod_eq_of_lt q0 (by omega)
  exact ⟨h, by rw [h]; exact q0, by rw [h]; exact q1⟩

theorem dg_step {w : Nat} (hw : 0 < w) (N : Int) (k j : Nat) : dg w N (k + 1) j = if j = k / w then dg w N k j + N / 2 ^ k % 2 * 2 ^ (k % w) else dg w N k j := by
  have hk : w * (k / w) + k % w = k := Nat.div_add_mod k w
  have hs : k % w < w := Nat.mod_lt _ hw
  have e1 : N % 2 ^ (k + 1) = N % 2 ^ k + 2 ^ k * (N / 2 ^ k % 2) := by
    rw [Int.pow_succ]; exact (emod_mul' (pow_pos' (by omega) k) (by omega)).symm
  have ht : 0 ≤ N / 2 ^ k % 2 ∧ N / 2 ^ k % 2 ≤ 1 := by omega
  have r0 := Int.emod_nonneg N (Int.ne_of_gt (pow_pos' (show (0 : Int) < 2 by omega) k))
  have r1 := Int.emod_lt_of_pos N (pow_pos' (show (0 : Int) < 2 by omega) k)
  by_cases h : j = k / w
  · rw [if_pos h]
    obtain ⟨h1, h2, h3⟩ := dg_here hw N k
    rw [h, h1] at *
    rw [h1] at h2 h3
    unfold dg
    rw [e1]
    have e2 : (2 : Int) ^ k * (N / 2 ^ k % 2) = 2 ^ (w * (k / w)) * (N / 2 ^ k % 2 * 2 ^ (k % w)) := by
      have : (2 : Int) ^ k = 2 ^ (w * (k / w)) * 2 ^ (k % w) := by rw [← Int.pow_add, hk]
      generalize N / 2 ^ k % 2 = t
      rw [this, Int.mul_assoc, Int.mul_comm (2 ^ (k % w))]
    rw [e2, Int.add_mul_ediv_left _ _ (Int.ne_of_gt (pow_pos' (by omega) _))]
    refine Int.emod_eq_of_lt ?_ ?_
    · have := Int.mul_nonneg ht.1 (Int.le_of_lt (pow_pos' (show (0 : Int) < 2 by omega) (k % w)))
      omega
    · have h4 : N / 2 ^ k % 2 * 2 ^ (k % w) ≤ 2 ^ (k % w) := by
        have := Int.mul_le_mul_of_nonneg_right ht.2 (Int.le_of_lt (pow_pos' (show (0 : Int) < 2 by omega) (k % w)))
        omega
      have h5 := pow_le' (show k % w + 1 ≤ w by omega)
      rw [Int.pow_succ] at h5
      omega
  · rw [if_neg h]
    unfold dg
    rw [e1]
    by_cases hlt : j < k / w
    · have hle : w * j + w ≤ k := by
        have h1 : w * (j + 1) ≤ w * (k / w) := Nat.mul_le_mul_left w hlt
        rw [Nat.mul_succ] at h1; omega
      have e2 : (2 : Int) ^ k * (N / 2 ^ k % 2) = 2 ^ (w * j) * (2 ^ w * (2 ^ (k - (w * j + w)) * (N / 2 ^ k % 2))) := by
        have : (2 : Int) ^ k = 2 ^ (w * j) * (2 ^ w * 2 ^ (k - (w * j + w))) := by
          rw [← Int.pow_add, ← Int.pow_add, show w * j + (w + (k - (w * j + w))) = k by omega]
        generalize N / 2 ^ k % 2 = t
        rw [this, Int.mul_assoc, Int.mul_assoc]
      rw [e2, Int.add_mul_ediv_left _ _ (Int.ne_of_gt (pow_pos' (by omega) _)), Int.add_mul_emod_self_left]
    · have hgt : k + 1 ≤ w * j := by
        have h1 : w * (k / w + 1) ≤ w * j := Nat.mul_le_mul_left w (by omega)
        rw [Nat.mul_succ] at h1; omega
      have hp := pow_le' hgt
      rw [Int.pow_succ] at hp
      have hm : 2 ^ k * (N / 2 ^ k % 2) ≤ 2 ^ k := by
        have := Int.mul_le_mul_of_nonneg_left ht.2 (Int.le_of_lt (pow_pos' (show (0 : Int) < 2 by omega) k))
        omega
      have hm0 := Int.mul_nonneg (Int.le_of_lt (pow_pos' (show (0 : Int) < 2 by omega) k)) ht.1
      rw [Int.ediv_eq_zero_of_lt (by omega) (by omega), Int.ediv_eq_zero_of_lt r0 (by omega)]

/-- All the digits of the lowest k bits. -/
theorem dg_all {w n k : Nat} {N : Int} (hk : k ≤ w * n) : dv (2 ^ w) n (dg w N k) = N % 2 ^ k := by
  have e : dg w N k = fun j => (N % 2 ^ k) / (2 ^ w) ^ j % 2 ^ w := funext fun j => by unfold dg; rw [← Int.pow_mul]
  rw [e, dv_digits (pow_pos' (by omega) w), ← Int.pow_mul]
  have r0 := Int.emod_nonneg N (Int.ne_of_gt (pow_pos' (show (0 : Int) < 2 by omega) k))
  have r1 := Int.emod_lt_of_pos N (pow_pos' (show (0 : Int) < 2 by omega) k)
  have := pow_le' hk
  exact Int.emod_eq_of_lt r0 (by omega)
end Go.Num
namespace Go.Ev
theorem shrU8 (a : Int) (k : Nat) (hk : k ≤ 8) : shrI .u8 a (k : Int) = a / 2 ^ k := by
  unfold shrI
  rw [show min (Int.toNat (k : Int)) (IntKind.bits .u8) = k from Nat.min_eq_left hk]
  exact Int.fdiv_eq_ediv_of_nonneg _ (by exact_mod_cast Nat.zero_le (2 ^ k))
theorem shlU8 (a : Int) (k : Nat) (hk : k ≤ 8) : shlI .u8 a (k : Int) = (a * 2 ^ k) % 256 := by
  unfold shlI
  rw [show min (Int.toNat (k : Int)) (IntKind.bits .u8) = k from Nat.min_eq_left hk]
  exact wrap_u8 _
theorem addU8 (a b : Int) : addI .u8 a b = (a + b) % 256 := wrap_u8 _
theorem and8_1 (a : Int) : andI .u8 a 1 = a % 2 := by
  unfold andI bits2
  have e1 : (BitVec.ofInt (IntKind.bits .u8) a).toNat = (a % 256).toNat := by rw [BitVec.toNat_ofInt]; rfl
  have e2 : (BitVec.ofInt (IntKind.bits .u8) 1).toNat = 2 ^ 1 - 1 := by decide
  rw [BitVec.toNat_and, e1, e2, Nat.and_two_pow_sub_one_eq_mod, wrap_u8]
  omega
end Go.Ev
namespace Go.Proofs.Ytbnclikjbnfodaa
open Go.Ev Go.Num

theorem e26 : (67108864 : Int) = 2 ^ 26 := by decide
theorem e8 : (256 : Int) = 2 ^ 8 := by decide

theorem fb_it {b : Nat → Int} (h : B32 b) : ∀ k, k ≤ 255 → ∀ j, j < 10 → rFromBytes_it b k j = dg 26 (vb b) k j
  | 0, _, j, _ => by rw [dg_zero]; rfl
  | k + 1, hk, j, hj => by
    have ih := fb_it h k (by omega)
    show rFromBytes_st b (k : Int) (rFromBytes_it b k) j = _
    unfold rFromBytes_st
    rw [show quoI .i64 (k : Int) 26 = ((k / 26 : Nat) : Int) from quo_nat k 26 (by omega), show quoI .i64 (k : Int) 8 = ((k / 8 : Nat) : Int) from quo_nat k 8 (by omega), show remI (k : Int) 8 = ((k % 8 : Nat) : Int) from rem_nat k 8, show remI (k : Int) 26 = ((k % 26 : Nat) : Int) from rem_nat k 26]
    simp only [Int.toNat_natCast, Nat.mul_one, Nat.zero_add]
    rw [up_at, dg_step (by omega)]
    split
    · rename_i e
      subst e
      obtain ⟨h1, h2, h3⟩ := dg_here (w := 26) (by omega) (vb b) k
      have hbit : andI .u8 (shrI .u8 (b (k / 8)) ((k % 8 : Nat) : Int)) 1 = vb b / 2 ^ k % 2 := by
        rw [and8_1, shrU8 _ _ (by omega)]
        have := digit_bit (k := 8) (a := b) (n := 32) (m := k / 8) (r := k % 8) (fun i hi => by rw [← e8]; exact h i hi) (by omega) (by omega)
        rw [Nat.div_add_mod, ← e8] at this
        exact this.symm
      rw [hbit, ih _ hj, wrap_u64, sm' (vb b / 2 ^ k % 2) (by omega) (by omega), shlU _ _ (by omega)]
      have hp := pow_le' (show k % 26 ≤ 25 by omega)
      have e25 : (2 : Int) ^ 25 = 33554432 := by decide
      have hp0 := pow_pos' (show (0 : Int) < 2 by omega) (k % 26)
      have ht : 0 ≤ vb b / 2 ^ k % 2 ∧ vb b / 2 ^ k % 2 ≤ 1 := by omega
      generalize vb b / 2 ^ k % 2 = t at *
      have hm : 0 ≤ t * 2 ^ (k % 26) ∧ t * 2 ^ (k % 26) ≤ 33554432 := by
        have h01 : t = 0 ∨ t = 1 := by omega
        rcases h01 with rfl | rfl <;> omega
      rw [sm' (t * 2 ^ (k % 26)) (by omega) (by omega), addU, sm' _ (by omega) (by omega)]
    · exact ih j hj

theorem rFromBytes_v {b : Nat → Int} (h : B32 b) : v10 (rFromBytes b) = vb b % 57896044618658097711785492504343953926634992332820282019728792003956564819968 % p ∧ D10 (rFromBytes b) := by
  have hd : ∀ j, j < 10 → 0 ≤ rFromBytes_it b 255 j ∧ rFromBytes_it b 255 j < 67108864 := fun j hj => by
    rw [fb_it h 255 (by omega) j hj]; unfold dg; rw [← e26]; omega
  have hl := least_nf (f := rFromBytes_it b 255) (fun j hj => by have := hd j hj; omega)
  have hv : v10 (rFromBytes_it b 255) = vb b % 57896044618658097711785492504343953926634992332820282019728792003956564819968 := by
    have e : v10 (rFromBytes_it b 255) = dv 67108864 10 (dg 26 (vb b) 255) := dv_congr fun j hj => fb_it h 255 (by omega) j hj
    rw [e, e26, dg_all (by omega)]
    rfl
  rw [hv] at hl
  exact hl

theorem tb_it {a : Nat → Int} (h : D10 a) : ∀ k, k ≤ 255 → ∀ j, j < 32 → rBytes_it a k j = dg 8 (v10 a) k j
  | 0, _, j, _ => by rw [dg_zero]; rfl
  | k + 1, hk, j, hj => by
    have ih := tb_it h k (by omega)
    show rBytes_st a (k : Int) (rBytes_it a k) j = _
    unfold rBytes_st
    rw [show quoI .i64 (k : Int) 26 = ((k / 26 : Nat) : Int) from quo_nat k 26 (by omega), show quoI .i64 (k : Int) 8 = ((k / 8 : Nat) : Int) from quo_nat k 8 (by omega), show remI (k : Int) 8 = ((k % 8 : Nat) : Int) from rem_nat k 8, show remI (k : Int) 26 = ((k % 26 : Nat) : Int) from rem_nat k 26]
    simp only [Int.toNat_natCast, Nat.mul_one, Nat.zero_add]
    rw [up_at, dg_step (by omega)]
    split
    · rename_i e
      subst e
      obtain ⟨h1, h2, h3⟩ := dg_here (w := 8) (by omega) (v10 a) k
      have hbit : andI .u64 (shrI .u64 (a (k / 26)) ((k % 26 : Nat) : Int)) 1 = v10 a / 2 ^ k % 2 := by
        rw [and1, shrU _ _ (by omega)]
        have := digit_bit (k := 26) (a := a) (n := 10) (m := k / 26) (r := k % 26) (fun i hi => by rw [← e26]; exact h.dig i hi) (by omega) (by omega)
        rw [Nat.div_add_mod, ← e26] at this
        exact this.symm
      rw [hbit, ih _ hj, wrap_u8, Int.emod_eq_of_lt (a := v10 a / 2 ^ k % 2) (by omega) (by omega), shlU8 _ _ (by omega)]
      have hp := pow_le' (show k % 8 ≤ 7 by omega)
      have e7 : (2 : Int) ^ 7 = 128 := by decide
      have hp0 := pow_pos' (show (0 : Int) < 2 by omega) (k % 8)
      have ht : 0 ≤ v10 a / 2 ^ k % 2 ∧ v10 a / 2 ^ k % 2 ≤ 1 := by omega
      generalize v10 a / 2 ^ k % 2 = t at *
      have hm : 0 ≤ t * 2 ^ (k % 8) ∧ t * 2 ^ (k % 8) ≤ 128 := by
        have h01 : t = 0 ∨ t = 1 := by omega
        rcases h01 with rfl | rfl <;> omega
      rw [Int.emod_eq_of_lt (a := t * 2 ^ (k % 8)) (by omega) (by omega), addU8, Int.emod_eq_of_lt (by omega) (by omega)]
    · exact ih j hj

theorem rBytes_v {a : Nat → Int} (h : D10 a) : ∀ j, j < 32 → rBytes a j = v10 a / 256 ^ j % 256 := by
  intro j hj
  show rBytes_it a 255 j = _
  rw [tb_it h 255 (by omega) j hj]
  unfold dg
  have hl := h.lt
  have e : v10 a % 2 ^ 255 = v10 a := Int.emod_eq_of_lt h.nonneg (by
    have : (2 : Int) ^ 255 = p + 19 := by decide
    omega)
  rw [e, e8, ← Int.pow_mul]

theorem byte_at0 {r : Nat → Int} (hr : ∀ j, j < 5 → 0 ≤ r j ∧ r j < 2251799813685248) : IntKind.wrap .u8 (shrI .u64 (r 0) 0) = v5 r / 1 % 256 := by
  have g0 := hr 0 (by omega); have g1 := hr 1 (by omega); have g2 := hr 2 (by omega); have g3 := hr 3 (by omega); have g4 := hr 4 (by omega)
  rw [show shrI .u64 (r 0) 0 = r 0 / 1 from shrU _ 0 (by omega)]
  rw [wrap_u8, v5_eq]
  omega
theorem byte_at1 {r : Nat → Int} (hr : ∀ j, j < 5 → 0 ≤ r j ∧ r j < 2251799813685248) : IntKind.wrap .u8 (shrI .u64 (r 0) 8) = v5 r / 256 % 256 := by
  have g0 := hr 0 (by omega); have g1 := hr 1 (by omega); have g2 := hr 2 (by omega); have g3 := hr 3 (by omega); have g4 := hr 4 (by omega)
  rw [show shrI .u64 (r 0) 8 = r 0 / 256 from shrU _ 8 (by omega)]
  rw [wrap_u8, v5_eq]
  omega
theorem byte_at2 {r : Nat → Int} (hr : ∀ j, j < 5 → 0 ≤ r j ∧ r j < 2251799813685248) : IntKind.wrap .u8 (shrI .u64 (r 0) 16) = v5 r / 65536 % 256 := by
  have g0 := hr 0 (by omega); have g1 := hr 1 (by omega); have g2 := hr 2 (by omega); have g3 := hr 3 (by omega); have g4 := hr 4 (by omega)
  rw [show shrI .u64 (r 0) 16 = r 0 / 65536 from shrU _ 16 (by omega)]
  rw [wrap_u8, v5_eq]
  omega
theorem byte_at3 {r : Nat → Int} (hr : ∀ j, j < 5 → 0 ≤ r j ∧ r j < 2251799813685248) : IntKind.wrap .u8 (shrI .u64 (r 0) 24) = v5 r / 16777216 % 256 := by
  have g0 := hr 0 (by omega); have g1 := hr 1 (by omega); have g2 := hr 2 (by omega); have g3 := hr 3 (by omega); have g4 := hr 4 (by omega)
  rw [show shrI .u64 (r 0) 24 = r 0 / 16777216 from shrU _ 24 (by omega)]
  rw [wrap_u8, v5_eq]
  omega
theorem byte_at4 {r : Nat → Int} (hr : ∀ j, j < 5 → 0 ≤ r j ∧ r j < 2251799813685248) : IntKind.wrap .u8 (shrI .u64 (r 0) 32) = v5 r / 4294967296 % 256 := by
  have g0 := hr 0 (by omega); have g1 := hr 1 (by omega); have g2 := hr 2 (by omega); have g3 := hr 3 (by omega); have g4 := hr 4 (by omega)
  rw [show shrI .u64 (r 0) 32 = r 0 / 4294967296 from shrU _ 32 (by omega)]
  rw [wrap_u8, v5_eq]
  omega
theorem byte_at5 {r : Nat → Int} (hr : ∀ j, j < 5 → 0 ≤ r j ∧ r j < 2251799813685248) : IntKind.wrap .u8 (shrI .u64 (r 0) 40) = v5 r / 1099511627776 % 256 := by
  have g0 := hr 0 (by omega); have g1 := hr 1 (by omega); have g2 := hr 2 (by omega); have g3 := hr 3 (by omega); have g4 := hr 4 (by omega)
  rw [show shrI .u64 (r 0) 40 = r 0 / 1099511627776 from shrU _ 40 (by omega)]
  rw [wrap_u8, v5_eq]
  omega
theorem byte_at6 {r : Nat → Int} (hr : ∀ j, j < 5 → 0 ≤ r j ∧ r j < 2251799813685248) : IntKind.wrap .u8 (orI .u64 (shrI .u64 (r 0) 48) (shlI .u64 (r 1) 3)) = v5 r / 281474976710656 % 256 := by
  have g0 := hr 0 (by omega); have g1 := hr 1 (by omega); have g2 := hr 2 (by omega); have g3 := hr 3 (by omega); have g4 := hr 4 (by omega)
  have h1 := hr 0 (by omega); have h2 := hr 1 (by omega)
  rw [show shrI .u64 (r 0) 48 = r 0 / 281474976710656 from shrU _ 48 (by omega)]
  rw [show shlI .u64 (r 1) 3 = (r 1 * 8) % 18446744073709551616 from shlU _ 3 (by omega)]
  rw [sm' (r 1 * 8) (by omega) (by omega)]
  rw [show (r 1 * 8 : Int) = r 1 * 2 ^ 3 from rfl, or_add 3 (by omega) (by show r 0 / 281474976710656 < 2 ^ 3; omega) (by omega) (by omega)]
  rw [wrap_u8, v5_eq]
  omega
theorem byte_at7 {r : Nat → Int} (hr : ∀ j, j < 5 → 0 ≤ r j ∧ r j < 2251799813685248) : IntKind.wrap .u8 (shrI .u64 (r 1) 5) = v5 r / 72057594037927936 % 256 := by
  have g0 := hr 0 (by omega); have g1 := hr 1 (by omega); have g2 := hr 2 (by omega); have g3 := hr 3 (by omega); have g4 := hr 4 (by omega)
  rw [show shrI .u64 (r 1) 5 = r 1 / 32 from shrU _ 5 (by omega)]
  rw [wrap_u8, v5_eq]
  omega
theorem byte_at8 {r : Nat → Int} (hr : ∀ j, j < 5 → 0 ≤ r j ∧ r j < 2251799813685248) : IntKind.wrap .u8 (shrI .u64 (r 1) 13) = v5 r / 18446744073709551616 % 256 := by
  have g0 := hr 0 (by omega); have g1 := hr 1 (by omega); have g2 := hr 2 (by omega); have g3 := hr 3 (by omega); have g4 := hr 4 (by omega)
  rw [show shrI .u64 (r 1) 13 = r 1 / 8192 from shrU _ 13 (by omega)]
  rw [wrap_u8, v5_eq]
  omega
theorem byte_at9 {r : Nat → Int} (hr : ∀ j, j < 5 → 0 ≤ r j ∧ r j < 2251799813685248) : IntKind.wrap .u8 (shrI .u64 (r 1) 21) = v5 r / 4722366482869645213696 % 256 := by
  have g0 := hr 0 (by omega); have g1 := hr 1 (by omega); have g2 := hr 2 (by omega); have g3 := hr 3 (by omega); have g4 := hr 4 (by omega)
  rw [show shrI .u64 (r 1) 21 = r 1 / 2097152 from shrU _ 21 (by omega)]
  rw [wrap_u8, v5_eq]
  omega
theorem byte_at10 {r : Nat → Int} (hr : ∀ j, j < 5 → 0 ≤ r j ∧ r j < 2251799813685248) : IntKind.wrap .u8 (shrI .u64 (r 1) 29) = v5 r / 1208925819614629174706176 % 256 := by
  have g0 := hr 0 (by omega); have g1 := hr 1 (by omega); have g2 := hr 2 (by omega); have g3 := hr 3 (by omega); have g4 := hr 4 (by omega)
  rw [show shrI .u64 (r 1) 29 = r 1 / 536870912 from shrU _ 29 (by omega)]
  rw [wrap_u8, v5_eq]
  omega
theorem byte_at11 {r : Nat → Int} (hr : ∀ j, j < 5 → 0 ≤ r j ∧ r j < 2251799813685248) : IntKind.wrap .u8 (shrI .u64 (r 1) 37) = v5 r / 309485009821345068724781056 % 256 := by
  have g0 := hr 0 (by omega); have g1 := hr 1 (by omega); have g2 := hr 2 (by omega); have g3 := hr 3 (by omega); have g4 := hr 4 (by omega)
  rw [show shrI .u64 (r 1) 37 = r 1 / 137438953472 from shrU _ 37 (by omega)]
  rw [wrap_u8, v5_eq]
  omega
theorem byte_at12 {r : Nat → Int} (hr : ∀ j, j < 5 → 0 ≤ r j ∧ r j < 2251799813685248) : IntKind.wrap .u8 (orI .u64 (shrI .u64 (r 1) 45) (shlI .u64 (r 2) 6)) = v5 r / 79228162514264337593543950336 % 256 := by
  have g0 := hr 0 (by omega); have g1 := hr 1 (by omega); have g2 := hr 2 (by omega); have g3 := hr 3 (by omega); have g4 := hr 4 (by omega)
  have h1 := hr 1 (by omega); have h2 := hr 2 (by omega)
  rw [show shrI .u64 (r 1) 45 = r 1 / 35184372088832 from shrU _ 45 (by omega)]
  rw [show shlI .u64 (r 2) 6 = (r 2 * 64) % 18446744073709551616 from shlU _ 6 (by omega)]
  rw [sm' (r 2 * 64) (by omega) (by omega)]
  rw [show (r 2 * 64 : Int) = r 2 * 2 ^ 6 from rfl, or_add 6 (by omega) (by show r 1 / 35184372088832 < 2 ^ 6; omega) (by omega) (by omega)]
  rw [wrap_u8, v5_eq]
  omega
theorem byte_at13 {r : Nat → Int} (hr : ∀ j, j < 5 → 0 ≤ r j ∧ r j < 2251799813685248) : IntKind.wrap .u8 (shrI .u64 (r 2) 2) = v5 r / 20282409603651670423947251286016 % 256 := by
  have g0 := hr 0 (by omega); have g1 := hr 1 (by omega); have g2 := hr 2 (by omega); have g3 := hr 3 (by omega); have g4 := hr 4 (by omega)
  rw [show shrI .u64 (r 2) 2 = r 2 / 4 from shrU _ 2 (by omega)]
  rw [wrap_u8, v5_eq]
  omega
theorem byte_at14 {r : Nat → Int} (hr : ∀ j, j < 5 → 0 ≤ r j ∧ r j < 2251799813685248) : IntKind.wrap .u8 (shrI .u64 (r 2) 10) = v5 r / 5192296858534827628530496329220096 % 256 := by
  have g0 := hr 0 (by omega); have g1 := hr 1 (by omega); have g2 := hr 2 (by omega); have g3 := hr 3 (by omega); have g4 := hr 4 (by omega)
  rw [show shrI .u64 (r 2) 10 = r 2 / 1024 from shrU _ 10 (by omega)]
  rw [wrap_u8, v5_eq]
  omega
theorem byte_at15 {r : Nat → Int} (hr : ∀ j, j < 5 → 0 ≤ r j ∧ r j < 2251799813685248) : IntKind.wrap .u8 (shrI .u64 (r 2) 18) = v5 r / 1329227995784915872903807060280344576 % 256 := by
  have g0 := hr 0 (by omega); have g1 := hr 1 (by omega); have g2 := hr 2 (by omega); have g3 := hr 3 (by omega); have g4 := hr 4 (by omega)
  rw [show shrI .u64 (r 2) 18 = r 2 / 262144 from shrU _ 18 (by omega)]
  rw [wrap_u8, v5_eq]
  omega
theorem byte_at16 {r : Nat → Int} (hr : ∀ j, j < 5 → 0 ≤ r j ∧ r j < 2251799813685248) : IntKind.wrap .u8 (shrI .u64 (r 2) 26) = v5 r / 340282366920938463463374607431768211456 % 256 := by
  have g0 := hr 0 (by omega); have g1 := hr 1 (by omega); have g2 := hr 2 (by omega); have g3 := hr 3 (by omega); have g4 := hr 4 (by omega)
  rw [show shrI .u64 (r 2) 26 = r 2 / 67108864 from shrU _ 26 (by omega)]
  rw [wrap_u8, v5_eq]
  omega
theorem byte_at17 {r : Nat → Int} (hr : ∀ j, j < 5 → 0 ≤ r j ∧ r j < 2251799813685248) : IntKind.wrap .u8 (shrI .u64 (r 2) 34) = v5 r / 87112285931760246646623899502532662132736 % 256 := by
  have g0 := hr 0 (by omega); have g1 := hr 1 (by omega); have g2 := hr 2 (by omega); have g3 := hr 3 (by omega); have g4 := hr 4 (by omega)
  rw [show shrI .u64 (r 2) 34 = r 2 / 17179869184 from shrU _ 34 (by omega)]
  rw [wrap_u8, v5_eq]
  omega
theorem byte_at18 {r : Nat → Int} (hr : ∀ j, j < 5 → 0 ≤ r j ∧ r j < 2251799813685248) : IntKind.wrap .u8 (shrI .u64 (r 2) 42) = v5 r / 22300745198530623141535718272648361505980416 % 256 := by
  have g0 := hr 0 (by omega); have g1 := hr 1 (by omega); have g2 := hr 2 (by omega); have g3 := hr 3 (by omega); have g4 := hr 4 (by omega)
  rw [show shrI .u64 (r 2) 42 = r 2 / 4398046511104 from shrU _ 42 (by omega)]
  rw [wrap_u8, v5_eq]
  omega
theorem byte_at19 {r : Nat → Int} (hr : ∀ j, j < 5 → 0 ≤ r j ∧ r j < 2251799813685248) : IntKind.wrap .u8 (orI .u64 (shrI .u64 (r 2) 50) (shlI .u64 (r 3) 1)) = v5 r / 5708990770823839524233143877797980545530986496 % 256 := by
  have g0 := hr 0 (by omega); have g1 := hr 1 (by omega); have g2 := hr 2 (by omega); have g3 := hr 3 (by omega); have g4 := hr 4 (by omega)
  have h1 := hr 2 (by omega); have h2 := hr 3 (by omega)
  rw [show shrI .u64 (r 2) 50 = r 2 / 1125899906842624 from shrU _ 50 (by omega)]
  rw [show shlI .u64 (r 3) 1 = (r 3 * 2) % 18446744073709551616 from shlU _ 1 (by omega)]
  rw [sm' (r 3 * 2) (by omega) (by omega)]
  rw [show (r 3 * 2 : Int) = r 3 * 2 ^ 1 from rfl, or_add 1 (by omega) (by show r 2 / 1125899906842624 < 2 ^ 1; omega) (by omega) (by omega)]
  rw [wrap_u8, v5_eq]
  omega
theorem byte_at20 {r : Nat → Int} (hr : ∀ j, j < 5 → 0 ≤ r j ∧ r j < 2251799813685248) : IntKind.wrap .u8 (shrI .u64 (r 3) 7) = v5 r / 1461501637330902918203684832716283019655932542976 % 256 := by
  have g0 := hr 0 (by omega); have g1 := hr 1 (by omega); have g2 := hr 2 (by omega); have g3 := hr 3 (by omega); have g4 := hr 4 (by omega)
  rw [show shrI .u64 (r 3) 7 = r 3 / 128 from shrU _ 7 (by omega)]
  rw [wrap_u8, v5_eq]
  omega
theorem byte_at21 {r : Nat → Int} (hr : ∀ j, j < 5 → 0 ≤ r j ∧ r j < 2251799813685248) : IntKind.wrap .u8 (shrI .u64 (r 3) 15) = v5 r / 374144419156711147060143317175368453031918731001856 % 256 := by
  have g0 := hr 0 (by omega); have g1 := hr 1 (by omega); have g2 := hr 2 (by omega); have g3 := hr 3 (by omega); have g4 := hr 4 (by omega)
  rw [show shrI .u64 (r 3) 15 = r 3 / 32768 from shrU _ 15 (by omega)]
  rw [wrap_u8, v5_eq]
  omega
theorem byte_at22 {r : Nat → Int} (hr : ∀ j, j < 5 → 0 ≤ r j ∧ r j < 2251799813685248) : IntKind.wrap .u8 (shrI .u64 (r 3) 23) = v5 r / 95780971304118053647396689196894323976171195136475136 % 256 := by
  have g0 := hr 0 (by omega); have g1 := hr 1 (by omega); have g2 := hr 2 (by omega); have g3 := hr 3 (by omega); have g4 := hr 4 (by omega)
  rw [show shrI .u64 (r 3) 23 = r 3 / 8388608 from shrU _ 23 (by omega)]
  rw [wrap_u8, v5_eq]
  omega
theorem byte_at23 {r : Nat → Int} (hr : ∀ j, j < 5 → 0 ≤ r j ∧ r j < 2251799813685248) : IntKind.wrap .u8 (shrI .u64 (r 3) 31) = v5 r / 24519928653854221733733552434404946937899825954937634816 % 256 := by
  have g0 := hr 0 (by omega); have g1 := hr 1 (by omega); have g2 := hr 2 (by omega); have g3 := hr 3 (by omega); have g4 := hr 4 (by omega)
  rw [show shrI .u64 (r 3) 31 = r 3 / 2147483648 from shrU _ 31 (by omega)]
  rw [wrap_u8, v5_eq]
  omega
theorem byte_at24 {r : Nat → Int} (hr : ∀ j, j < 5 → 0 ≤ r j ∧ r j < 2251799813685248) : IntKind.wrap .u8 (shrI .u64 (r 3) 39) = v5 r / 6277101735386680763835789423207666416102355444464034512896 % 256 := by
  have g0 := hr 0 (by omega); have g1 := hr 1 (by omega); have g2 := hr 2 (by omega); have g3 := hr 3 (by omega); have g4 := hr 4 (by omega)
  rw [show shrI .u64 (r 3) 39 = r 3 / 549755813888 from shrU _ 39 (by omega)]
  rw [wrap_u8, v5_eq]
  omega
theorem byte_at25 {r : Nat → Int} (hr : ∀ j, j < 5 → 0 ≤ r j ∧ r j < 2251799813685248) : IntKind.wrap .u8 (orI .u64 (shrI .u64 (r 3) 47) (shlI .u64 (r 4) 4)) = v5 r / 1606938044258990275541962092341162602522202993782792835301376 % 256 := by
  have g0 := hr 0 (by omega); have g1 := hr 1 (by omega); have g2 := hr 2 (by omega); have g3 := hr 3 (by omega); have g4 := hr 4 (by omega)
  have h1 := hr 3 (by omega); have h2 := hr 4 (by omega)
  rw [show shrI .u64 (r 3) 47 = r 3 / 140737488355328 from shrU _ 47 (by omega)]
  rw [show shlI .u64 (r 4) 4 = (r 4 * 16) % 18446744073709551616 from shlU _ 4 (by omega)]
  rw [sm' (r 4 * 16) (by omega) (by omega)]
  rw [show (r 4 * 16 : Int) = r 4 * 2 ^ 4 from rfl, or_add 4 (by omega) (by show r 3 / 140737488355328 < 2 ^ 4; omega) (by omega) (by omega)]
  rw [wrap_u8, v5_eq]
  omega
theorem byte_at26 {r : Nat → Int} (hr : ∀ j, j < 5 → 0 ≤ r j ∧ r j < 2251799813685248) : IntKind.wrap .u8 (shrI .u64 (r 4) 4) = v5 r / 411376139330301510538742295639337626245683966408394965837152256 % 256 := by
  have g0 := hr 0 (by omega); have g1 := hr 1 (by omega); have g2 := hr 2 (by omega); have g3 := hr 3 (by omega); have g4 := hr 4 (by omega)
  rw [show shrI .u64 (r 4) 4 = r 4 / 16 from shrU _ 4 (by omega)]
  rw [wrap_u8, v5_eq]
  omega
theorem byte_at27 {r : Nat → Int} (hr : ∀ j, j < 5 → 0 ≤ r j ∧ r j < 2251799813685248) : IntKind.wrap .u8 (shrI .u64 (r 4) 12) = v5 r / 105312291668557186697918027683670432318895095400549111254310977536 % 256 := by
  have g0 := hr 0 (by omega); have g1 := hr 1 (by omega); have g2 := hr 2 (by omega); have g3 := hr 3 (by omega); have g4 := hr 4 (by omega)
  rw [show shrI .u64 (r 4) 12 = r 4 / 4096 from shrU _ 12 (by omega)]
  rw [wrap_u8, v5_eq]
  omega
theorem byte_at28 {r : Nat → Int} (hr : ∀ j, j < 5 → 0 ≤ r j ∧ r j < 2251799813685248) : IntKind.wrap .u8 (shrI .u64 (r 4) 20) = v5 r / 26959946667150639794667015087019630673637144422540572481103610249216 % 256 := by
  have g0 := hr 0 (by omega); have g1 := hr 1 (by omega); have g2 := hr 2 (by omega); have g3 := hr 3 (by omega); have g4 := hr 4 (by omega)
  rw [show shrI .u64 (r 4) 20 = r 4 / 1048576 from shrU _ 20 (by omega)]
  rw [wrap_u8, v5_eq]
  omega
theorem byte_at29 {r : Nat → Int} (hr : ∀ j, j < 5 → 0 ≤ r j ∧ r j < 2251799813685248) : IntKind.wrap .u8 (shrI .u64 (r 4) 28) = v5 r / 6901746346790563787434755862277025452451108972170386555162524223799296 % 256 := by
  have g0 := hr 0 (by omega); have g1 := hr 1 (by omega); have g2 := hr 2 (by omega); have g3 := hr 3 (by omega); have g4 := hr 4 (by omega)
  rw [show shrI .u64 (r 4) 28 = r 4 / 268435456 from shrU _ 28 (by omega)]
  rw [wrap_u8, v5_eq]
  omega
theorem byte_at30 {r : Nat → Int} (hr : ∀ j, j < 5 → 0 ≤ r j ∧ r j < 2251799813685248) : IntKind.wrap .u8 (shrI .u64 (r 4) 36) = v5 r / 1766847064778384329583297500742918515827483896875618958121606201292619776 % 256 := by
  have g0 := hr 0 (by omega); have g1 := hr 1 (by omega); have g2 := hr 2 (by omega); have g3 := hr 3 (by omega); have g4 := hr 4 (by omega)
  rw [show shrI .u64 (r 4) 36 = r 4 / 68719476736 from shrU _ 36 (by omega)]
  rw [wrap_u8, v5_eq]
  omega
theorem byte_at31 {r : Nat → Int} (hr : ∀ j, j < 5 → 0 ≤ r j ∧ r j < 2251799813685248) : IntKind.wrap .u8 (shrI .u64 (r 4) 44) = v5 r / 452312848583266388373324160190187140051835877600158453279131187530910662656 % 256 := by
  have g0 := hr 0 (by omega); have g1 := hr 1 (by omega); have g2 := hr 2 (by omega); have g3 := hr 3 (by omega); have g4 := hr 4 (by omega)
  rw [show shrI .u64 (r 4) 44 = r 4 / 17592186044416 from shrU _ 44 (by omega)]
  rw [wrap_u8, v5_eq]
  omega

theorem thirtytwo {P : Nat → Prop} (h : P 0 ∧ P 1 ∧ P 2 ∧ P 3 ∧ P 4 ∧ P 5 ∧ P 6 ∧ P 7 ∧ P 8 ∧ P 9 ∧ P 10 ∧ P 11 ∧ P 12 ∧ P 13 ∧ P 14 ∧ P 15 ∧ P 16 ∧ P 17 ∧ P 18 ∧ P 19 ∧ P 20 ∧ P 21 ∧ P 22 ∧ P 23 ∧ P 24 ∧ P 25 ∧ P 26 ∧ P 27 ∧ P 28 ∧ P 29 ∧ P 30 ∧ P 31) : ∀ j, j < 32 → P j := by
  intro j hj
  obtain ⟨h0, h1, h2, h3, h4, h5, h6, h7, h8, h9, h10, h11, h12, h13, h14, h15, h16, h17, h18, h19, h20, h21, h22, h23, h24, h25, h26, h27, h28, h29, h30, h31⟩ := h
  have h : j = 0 ∨ j = 1 ∨ j = 2 ∨ j = 3 ∨ j = 4 ∨ j = 5 ∨ j = 6 ∨ j = 7 ∨ j = 8 ∨ j = 9 ∨ j = 10 ∨ j = 11 ∨ j = 12 ∨ j = 13 ∨ j = 14 ∨ j = 15 ∨ j = 16 ∨ j = 17 ∨ j = 18 ∨ j = 19 ∨ j = 20 ∨ j = 21 ∨ j = 22 ∨ j = 23 ∨ j = 24 ∨ j = 25 ∨ j = 26 ∨ j = 27 ∨ j = 28 ∨ j = 29 ∨ j = 30 ∨ j = 31 := by omega
  rcases h with rfl | rfl | rfl | rfl | rfl | rfl | rfl | rfl | rfl | rfl | rfl | rfl | rfl | rfl | rfl | rfl | rfl | rfl | rfl | rfl | rfl | rfl | rfl | rfl | rfl | rfl | rfl | rfl | rfl | rfl | rfl | rfl <;> assumption

theorem bytes_v {x : Nat → Int} (h : U5 x) : ∀ j, j < 32 → bytesF x j = v5 x % p / 256 ^ j % 256 := by
  obtain ⟨r1, r2⟩ := reduce_v h
  rw [← r1]
  exact thirtytwo (P := fun j => bytesF x j = v5 (reduceF x) / 256 ^ j % 256) ⟨byte_at0 r2.lim, byte_at1 r2.lim, byte_at2 r2.lim, byte_at3 r2.lim, byte_at4 r2.lim, byte_at5 r2.lim, byte_at6 r2.lim, byte_at7 r2.lim, byte_at8 r2.lim, byte_at9 r2.lim, byte_at10 r2.lim, byte_at11 r2.lim, byte_at12 r2.lim, byte_at13 r2.lim, byte_at14 r2.lim, byte_at15 r2.lim, byte_at16 r2.lim, byte_at17 r2.lim, byte_at18 r2.lim, byte_at19 r2.lim, byte_at20 r2.lim, byte_at21 r2.lim, byte_at22 r2.lim, byte_at23 r2.lim, byte_at24 r2.lim, byte_at25 r2.lim, byte_at26 r2.lim, byte_at27 r2.lim, byte_at28 r2.lim, byte_at29 r2.lim, byte_at30 r2.lim, byte_at31 r2.lim⟩
end Go.Proofs.Ytbnclikjbnfodaa

/-
  Powers, bit by bit from the highest on. Conditions: none.
-/
namespace Go.Proofs.Ytbnclikjbnfodaa
open Go.Ev Go.Num

theorem pow_emod' (a : Int) (n : Nat) : (a % p) ^ n % p = a ^ n % p := by
  induction n with
  | zero => simp
  | succ n ih => rw [Int.pow_succ, Int.pow_succ, Int.mul_emod, ih, Int.emod_emod_of_dvd _ (Int.dvd_refl p), ← Int.mul_emod]
theorem pw_sq (X : Int) (m : Nat) : (X ^ m % p * (X ^ m % p)) % p = X ^ (2 * m) % p := by
  rw [← Int.mul_emod, ← Int.pow_add, show m + m = 2 * m by omega]
theorem pw_mul (X : Int) (n : Nat) : (X ^ n % p * X) % p = X ^ (n + 1) % p := by
  rw [Int.pow_succ, Int.mul_emod, Int.emod_emod_of_dvd _ (Int.dvd_refl p), ← Int.mul_emod]

theorem pow_bit {e : Nat → Int} (he : B32 e) {i : Nat} (hi : i < 256) : andI .u8 (shrI .u8 (e (0 + (Int.toNat (quoI .i64 (i : Int) 8) * 1))) (remI (i : Int) 8)) 1 = vb e / 2 ^ i % 2 := by
  rw [show quoI .i64 (i : Int) 8 = ((i / 8 : Nat) : Int) from quo_nat i 8 (by omega), show remI (i : Int) 8 = ((i % 8 : Nat) : Int) from rem_nat i 8]
  simp only [Int.toNat_natCast, Nat.mul_one, Nat.zero_add]
  rw [and8_1, shrU8 _ _ (by omega)]
  have := digit_bit (k := 8) (a := e) (n := 32) (m := i / 8) (r := i % 8) (fun j hj => by rw [← e8]; exact he j hj) (by omega) (by omega)
  rw [Nat.div_add_mod, ← e8] at this
  exact this.symm

theorem vb_bound {e : Nat → Int} (he : B32 e) : 0 ≤ vb e ∧ vb e < 2 ^ 256 := by
  have h := dv_bound (B := 256) (by omega) he
  exact ⟨h.1, h.2⟩

/-- The exponent behind one bit more. -/
theorem exp_step {E : Int} (h0 : 0 ≤ E) (i : Nat) : (E / 2 ^ i).toNat = 2 * (E / 2 ^ (i + 1)).toNat + (E / 2 ^ i % 2).toNat := by
  have h1 : E / 2 ^ (i + 1) = E / 2 ^ i / 2 := by rw [Int.pow_succ, Int.ediv_ediv_of_nonneg (Int.le_of_lt (pow_pos' (by omega) i))]
  have h2 : 0 ≤ E / 2 ^ i := Int.ediv_nonneg h0 (Int.le_of_lt (pow_pos' (by omega) i))
  rw [h1]; omega

theorem powF_v {x e : Nat → Int} (hx : U5 x) (he : B32 e) : ∀ k, k ≤ 256 → v5 (powF_it x e k) = v5 x ^ (vb e / 2 ^ (256 - k)).toNat % p ∧ R5 (powF_it x e k)
  | 0, _ => by
    obtain ⟨b0, b1⟩ := vb_bound he
    rw [show 256 - 0 = 256 from rfl, Int.ediv_eq_zero_of_lt b0 b1]
    obtain ⟨s1, s2⟩ := small_v (n := 1) (by omega) (by omega)
    exact ⟨by show v5 (smallF 1) = _; rw [s1, show Int.toNat 0 = 0 from rfl, Int.pow_zero]; decide, s2⟩
  | k + 1, hk => by
    obtain ⟨i1, i2⟩ := powF_v hx he k (by omega)
    have hs := exp_step (vb_bound he).1 (256 - 1 - k)
    rw [show 256 - 1 - k + 1 = 256 - k by omega] at hs
    have hb := pow_bit he (show 256 - 1 - k < 256 by omega)
    rw [show 256 - (k + 1) = 256 - 1 - k by omega]
    obtain ⟨q1, q2⟩ := mul_v i2.u i2.u
    rw [i1, pw_sq] at q1
    have ht : vb e / 2 ^ (256 - 1 - k) % 2 = 0 ∨ vb e / 2 ^ (256 - 1 - k) % 2 = 1 := by omega
    show v5 (powF_st x e _ _) = _ ∧ R5 (powF_st x e _ _)
    unfold powF_st squareF
    rw [hb]
    rcases ht with ht | ht
    · rw [ht] at hs ⊢
      rw [show ((0 : Int) == 1) = false from rfl, cond_false, hs]
      exact ⟨q1, q2⟩
    · rw [ht] at hs ⊢
      obtain ⟨r1, r2⟩ := mul_v q2.u hx
      rw [q1, pw_mul] at r1
      rw [show ((1 : Int) == 1) = true from rfl, cond_true, hs]
      exact ⟨r1, r2⟩

theorem rPow_v {x e : Nat → Int} (hx : D10 x) (he : B32 e) : ∀ k, k ≤ 256 → v10 (rPow_it x e k) = v10 x ^ (vb e / 2 ^ (256 - k)).toNat % p ∧ D10 (rPow_it x e k)
  | 0, _ => by
    obtain ⟨b0, b1⟩ := vb_bound he
    rw [show 256 - 0 = 256 from rfl, Int.ediv_eq_zero_of_lt b0 b1]
    obtain ⟨s1, s2⟩ := small_r (n := 1) (by omega) (by omega)
    exact ⟨by show v10 (rSmall 1) = _; rw [s1, show Int.toNat 0 = 0 from rfl, Int.pow_zero]; decide, s2⟩
  | k + 1, hk => by
    obtain ⟨i1, i2⟩ := rPow_v hx he k (by omega)
    have hs := exp_step (vb_bound he).1 (256 - 1 - k)
    rw [show 256 - 1 - k + 1 = 256 - k by omega] at hs
    have hb := pow_bit he (show 256 - 1 - k < 256 by omega)
    rw [show 256 - (k + 1) = 256 - 1 - k by omega]
    obtain ⟨q1, q2⟩ := mul_r i2 i2
    rw [i1, pw_sq] at q1
    have ht : vb e / 2 ^ (256 - 1 - k) % 2 = 0 ∨ vb e / 2 ^ (256 - 1 - k) % 2 = 1 := by omega
    show v10 (rPow_st x e _ _) = _ ∧ D10 (rPow_st x e _ _)
    unfold rPow_st
    rw [hb]
    rcases ht with ht | ht
    · rw [ht] at hs ⊢
      rw [show ((0 : Int) == 1) = false from rfl, cond_false, hs]
      exact ⟨q1, q2⟩
    · rw [ht] at hs ⊢
      obtain ⟨r1, r2⟩ := mul_r q2 hx
      rw [q1, pw_mul] at r1
      rw [show ((1 : Int) == 1) = true from rfl, cond_true, hs]
      exact ⟨r1, r2⟩

theorem pow_v {x e : Nat → Int} (hx : U5 x) (he : B32 e) : v5 (powF x e) = v5 x ^ (vb e).toNat % p ∧ R5 (powF x e) := by
  have h := powF_v hx he 256 (by omega)
  rw [Nat.sub_self, Int.pow_zero, Int.ediv_one] at h
  exact h
theorem pow_r {x e : Nat → Int} (hx : D10 x) (he : B32 e) : v10 (rPow x e) = v10 x ^ (vb e).toNat % p ∧ D10 (rPow x e) := by
  have h := rPow_v hx he 256 (by omega)
  rw [Nat.sub_self, Int.pow_zero, Int.ediv_one] at h
  exact h

theorem powerInv : B32 (power255 235 127) := by unfold B32; decide
theorem powerInv_v : vb (power255 235 127) = p - 2 := by decide
theorem rPower_eq (l h : Int) : rPower l h = power255 l h := rfl
theorem inv_v {x : Nat → Int} (hx : U5 x) : v5 (invertF x) = v5 x ^ (p - 2).toNat % p ∧ R5 (invertF x) := by
  have h := pow_v hx powerInv
  rw [powerInv_v] at h
  exact h
theorem inv_r {x : Nat → Int} (hx : D10 x) : v10 (rInvert x) = v10 x ^ (p - 2).toNat % p ∧ D10 (rInvert x) := by
  have h := pow_r hx powerInv
  rw [powerInv_v] at h
  exact h
end Go.Proofs.Ytbnclikjbnfodaa

/-
  p is a prime number; the small theorem of Fermat. Plain numbers, no program. Conditions: none.
-/
namespace Go.Num

/-- A prime number. -/
def Pr (n : Nat) : Prop := 2 ≤ n ∧ ∀ m, m ∣ n → m = 1 ∨ m = n

theorem Pr.coprime {q m : Nat} (hq : Pr q) (h : ¬ q ∣ m) : Nat.Coprime q m := by
  have h1 := hq.2 _ (Nat.gcd_dvd_left q m)
  rcases h1 with h1 | h1
  · exact h1
  · exact absurd (h1 ▸ Nat.gcd_dvd_right q m) h
theorem Pr.dvd_mul {q a b : Nat} (hq : Pr q) (h : q ∣ a * b) : q ∣ a ∨ q ∣ b := by
  by_cases ha : q ∣ a
  · exact .inl ha
  · exact .inr ((hq.coprime ha).dvd_of_dvd_mul_left h)

/-- A prime factor that is the number itself, or whose square is not above it. -/
theorem factor : ∀ n, 2 ≤ n → Pr n ∨ ∃ r, Pr r ∧ r ∣ n ∧ r * r ≤ n := by
  intro n
  induction n using Nat.strongRecOn with
  | _ n ih =>
    intro hn
    by_cases h : ∃ m, m ∣ n ∧ m ≠ 1 ∧ m ≠ n
    · obtain ⟨m, ⟨k, rfl⟩, h1, h2⟩ := h
      refine .inr ?_
      have hm0 : m ≠ 0 := by rintro rfl; simp at hn
      have hk0 : k ≠ 0 := by rintro rfl; simp at hn
      have hk1 : k ≠ 1 := by rintro rfl; simp at h2
      have key : ∀ a b, 2 ≤ a → 2 ≤ b → a ≤ b → a * b = m * k → ∃ r, Pr r ∧ r ∣ m * k ∧ r * r ≤ m * k := by
        intro a b ha hb hab he
        have hlt : a < m * k := by rw [← he]; exact Nat.lt_of_lt_of_le (by omega) (Nat.mul_le_mul_left a hb)
        have haa : a * a ≤ m * k := by rw [← he]; exact Nat.mul_le_mul_left a hab
        rcases ih a hlt ha with hp | ⟨r, hr, hd, hrr⟩
        · exact ⟨a, hp, ⟨b, he.symm⟩, haa⟩
        · exact ⟨r, hr, Nat.dvd_trans hd ⟨b, he.symm⟩, Nat.le_trans hrr (Nat.le_of_lt hlt)⟩
      rcases Nat.le_total m k with hle | hle
      · exact key m k (by omega) (by omega) hle rfl
      · exact key k m (by omega) (by omega) hle (Nat.mul_comm k m)
    · refine .inl ⟨hn, fun m hm => ?_⟩
      apply Classical.byContradiction
      intro hne
      exact h ⟨m, hm, fun e => hne (.inl e), fun e => hne (.inr e)⟩

/-! ### Fermat -/

/-- Choosing k of n. -/
def ch : Nat → Nat → Nat
  | _, 0 => 1
  | 0, _ + 1 => 0
  | n + 1, k + 1 => ch n k + ch n (k + 1)
theorem ch_gt : ∀ n k, n < k → ch n k = 0
  | 0, k + 1, _ => rfl
  | n + 1, k + 1, h => by rw [ch, ch_gt n k (by omega), ch_gt n (k + 1) (by omega)]
theorem ch_self : ∀ n, ch n n = 1
  | 0 => rfl
  | n + 1 => by rw [ch, ch_self n, ch_gt n (n + 1) (by omega)]
theorem ch_mul : ∀ n k, (k + 1) * ch (n + 1) (k + 1) = (n + 1) * ch n k
  | 0, 0 => rfl
  | 0, k + 1 => by rw [ch_gt 1 (k + 2) (by omega), ch_gt 0 (k + 1) (by omega)]; simp
  | n + 1, 0 => by
    have h := ch_mul n 0
    have h2 : ch (n + 1 + 1) (0 + 1) = ch (n + 1) 0 + ch (n + 1) (0 + 1) := rfl
    rw [h2]
    simp only [ch] at h ⊢
    omega
  | n + 1, k + 1 => by
    have h1 := ch_mul n k
    have h2 := ch_mul n (k + 1)
    rw [show ch (n + 1 + 1) (k + 1 + 1) = ch (n + 1) (k + 1) + ch (n + 1) (k + 1 + 1) from rfl]
    have h3 : ch (n + 1) (k + 1) = ch n k + ch n (k + 1) := rfl
    grind

theorem prime_ch {q : Nat} (hq : Pr q) {k : Nat} (h0 : 0 < k) (h1 : k < q) : q ∣ ch q k := by
  obtain ⟨k, rfl⟩ : ∃ j, k = j + 1 := ⟨k - 1, by omega⟩
  obtain ⟨n, rfl⟩ : ∃ j, q = j + 1 := ⟨q - 1, by omega⟩
  have h := ch_mul n k
  have hd : n + 1 ∣ (k + 1) * ch (n + 1) (k + 1) := ⟨ch n k, h⟩
  rcases hq.dvd_mul hd with h | h
  · exact absurd (Nat.le_of_dvd (by omega) h) (by omega)
  · exact h

/-- The sum of the first m terms of (a + 1)^n. -/
def bs (a n : Nat) : Nat → Nat
  | 0 => 0
  | m + 1 => bs a n m + ch n m * a ^ m
theorem bs_step (a n : Nat) : ∀ m, bs a (n + 1) (m + 1) = bs a n (m + 1) + a * bs a n m
  | 0 => by simp [bs, ch]
  | m + 1 => by
    have h := bs_step a n m
    rw [bs, h]
    rw [show bs a n (m + 1 + 1) = bs a n (m + 1) + ch n (m + 1) * a ^ (m + 1) from rfl]
    rw [show bs a n (m + 1) = bs a n m + ch n m * a ^ m from rfl]
    rw [show ch (n + 1) (m + 1) = ch n m + ch n (m + 1) from rfl, Nat.pow_succ]
    grind
theorem binomial (a : Nat) : ∀ n, (a + 1) ^ n = bs a n (n + 1)
  | 0 => by simp [bs, ch]
  | n + 1 => by
    rw [bs_step, Nat.pow_succ, binomial a n]
    rw [show bs a n (n + 1 + 1) = bs a n (n + 1) + ch n (n + 1) * a ^ (n + 1) from rfl, ch_gt n (n + 1) (by omega)]
    grind
theorem bs_mod {q : Nat} (hq : Pr q) (a : Nat) : ∀ m, m < q → bs a q (m + 1) % q = 1 % q
  | 0, _ => by simp [bs, ch]
  | m + 1, h => by
    rw [bs, Nat.add_mod, bs_mod hq a m (by omega)]
    obtain ⟨c, hc⟩ := prime_ch hq (k := m + 1) (by omega) h
    rw [hc, Nat.mul_assoc, Nat.mul_mod_right]
    simp
theorem fermat {q : Nat} (hq : Pr q) : ∀ a, a ^ q % q = a % q
  | 0 => by rw [Nat.zero_pow (by have := hq.1; omega)]
  | a + 1 => by
    have h2 := hq.1
    rw [binomial, bs, ch_self, Nat.one_mul, Nat.add_mod, fermat hq a]
    obtain ⟨m, hm⟩ : ∃ m, q = m + 1 := ⟨q - 1, by omega⟩
    have h := bs_mod hq a m (by omega)
    rw [← hm] at h
    rw [h, ← Nat.add_mod, Nat.add_comm]
theorem fermat1 {q : Nat} (hq : Pr q) {a : Nat} (h : ¬ q ∣ a) : a ^ (q - 1) % q = 1 % q := by
  have h2 := hq.1
  have h1 := fermat hq a
  obtain ⟨m, rfl⟩ : ∃ m, q = m + 1 := ⟨q - 1, by omega⟩
  rw [Nat.pow_succ] at h1
  simp only [Nat.add_sub_cancel]
  have hd : ((m + 1 : Nat) : Int) ∣ (a : Int) * ((a : Int) ^ m - 1) := by
    have : (((a ^ m * a : Nat) : Int) - (a : Int)) % ((m + 1 : Nat) : Int) = 0 := by
      have e : ((a ^ m * a : Nat) : Int) % ((m + 1 : Nat) : Int) = (a : Int) % ((m + 1 : Nat) : Int) := by exact_mod_cast h1
      rw [Int.sub_emod, e]; simp
    have e2 : (a : Int) * ((a : Int) ^ m - 1) = ((a ^ m * a : Nat) : Int) - (a : Int) := by push_cast; grind
    rw [e2]
    exact Int.dvd_of_emod_eq_zero this
  by_cases ha : a = 0
  · subst ha; exact absurd ⟨0, rfl⟩ h
  have h1 : 1 ≤ a ^ m := Nat.pow_pos (by omega)
  have hd2 : (m + 1) ∣ a * (a ^ m - 1) := by
    have : ((a * (a ^ m - 1) : Nat) : Int) = (a : Int) * ((a : Int) ^ m - 1) := by push_cast [h1]; rfl
    rw [← this] at hd
    exact_mod_cast hd
  have hd3 := (hq.coprime h).dvd_of_dvd_mul_left hd2
  obtain ⟨c, hc⟩ := hd3
  have : a ^ m = (m + 1) * c + 1 := by omega
  rw [this, Nat.add_comm, Nat.add_mul_mod_self_left]

theorem fermat_int {q : Nat} (hq : Pr q) {X : Int} (hx : X % q ≠ 0) : X ^ (q - 1) % q = 1 := by
  have h2 := hq.1
  obtain ⟨a, ha⟩ : ∃ a : Nat, X % q = (a : Int) := Int.eq_ofNat_of_zero_le (Int.emod_nonneg _ (by omega))
  have hn : ¬ q ∣ a := by
    rintro ⟨c, rfl⟩
    apply hx
    have h : X % q % q = 0 := by rw [ha]; push_cast; exact Int.mul_emod_right _ _
    rwa [Int.emod_emod_of_dvd _ (Int.dvd_refl _)] at h
  have h := fermat1 hq hn
  have h1 : ∀ n : Nat, (X % q) ^ n % q = X ^ n % q := by
    intro n
    induction n with
    | zero => simp
    | succ n ih => rw [Int.pow_succ, Int.pow_succ, Int.mul_emod, ih, Int.emod_emod_of_dvd _ (Int.dvd_refl _), ← Int.mul_emod]
  rw [← h1, ha]
  generalize q - 1 = m at *
  rw [Nat.mod_eq_of_lt (show 1 < q by omega)] at h
  exact_mod_cast h

/-! ### Powers modulo n, fast; a number all of whose prime factors are large -/

def pm (n : Nat) : Nat → Nat → Nat → Nat
  | 0, _, _ => 1 % n
  | fuel + 1, a, e => if e = 0 then 1 % n else if e % 2 = 0 then pm n fuel (a * a % n) (e / 2) else a * pm n fuel (a * a % n) (e / 2) % n
theorem pm_eq (n : Nat) : ∀ fuel a e, e < 2 ^ fuel → pm n fuel a e = a ^ e % n
  | 0, a, e, h => by
    obtain rfl : e = 0 := by simpa using h
    simp [pm]
  | fuel + 1, a, e, h => by
    unfold pm
    have hlt : e / 2 < 2 ^ fuel := by rw [Nat.pow_succ] at h; omega
    have ih := pm_eq n fuel (a * a % n) (e / 2) hlt
    have e1 : (a * a % n) ^ (e / 2) % n = (a * a) ^ (e / 2) % n := (Nat.pow_mod (a * a) (e / 2) n).symm
    have e2 : (a * a) ^ (e / 2) = a ^ (2 * (e / 2)) := by rw [Nat.pow_mul, Nat.pow_two]
    rw [ih, e1, e2]
    by_cases h0 : e = 0
    · subst h0; simp
    · rw [if_neg h0]
      by_cases hm : e % 2 = 0
      · rw [if_pos hm, show 2 * (e / 2) = e by omega]
      · rw [if_neg hm]
        have : e = 2 * (e / 2) + 1 := by omega
        conv => rhs; rw [this, Nat.pow_succ, Nat.mul_comm]
        rw [Nat.mul_mod, Nat.mod_mod, ← Nat.mul_mod]

theorem pow_gcd {r g : Nat} (hr : 1 < r) : ∀ a b, g ^ a % r = 1 → g ^ b % r = 1 → g ^ (Nat.gcd a b) % r = 1 := by
  intro a b
  induction a, b using Nat.gcd.induction with
  | H0 b => intro _ h; rw [Nat.gcd_zero_left]; exact h
  | H1 a b ha ih =>
    intro h1 h2
    rw [Nat.gcd_rec]
    refine ih ?_ h1
    have e : b = a * (b / a) + b % a := (Nat.div_add_mod b a).symm
    rw [e, Nat.pow_add, Nat.pow_mul, Nat.mul_mod, Nat.pow_mod, h1, Nat.one_pow, Nat.mod_eq_of_lt hr, Nat.one_mul, Nat.mod_mod] at h2
    exact h2

/-- Pocklington: n - 1 = q R, q a prime; g^(n - 1) is 1, and g^R - 1 has no factor in common with n; no factor 1 + k q below the root. -/
theorem pock {n q R g K : Nat} (hn : 2 ≤ n) (hq : Pr q) (hnq : n - 1 = q * R) (h1 : g ^ (n - 1) % n = 1) (h2 : Nat.gcd ((g ^ R % n + n - 1) % n) n = 1)
    (hK : n < (1 + (K + 1) * q) * (1 + (K + 1) * q)) (hk : ∀ k, k < K → n % (1 + (k + 1) * q) ≠ 0) : Pr n := by
  rcases factor n hn with h | ⟨r, hr, hd, hrr⟩
  · exact h
  exfalso
  have hr2 := hr.1
  have h1r : g ^ (n - 1) % r = 1 := by
    have : g ^ (n - 1) % n % r = 1 % r := by rw [h1]
    rw [Nat.mod_mod_of_dvd _ hd, Nat.mod_eq_of_lt (show 1 < r by omega)] at this
    exact this
  have hg : ¬ r ∣ g := by
    rintro ⟨c, rfl⟩
    obtain ⟨m, hm⟩ : ∃ m, n - 1 = m + 1 := ⟨n - 2, by omega⟩
    rw [hm, Nat.pow_succ, Nat.mul_comm, Nat.mul_assoc, Nat.mul_mod_right] at h1r
    omega
  have h2r := fermat1 hr hg
  rw [Nat.mod_eq_of_lt (show 1 < r by omega)] at h2r
  have hgcd := pow_gcd (by omega) _ _ h1r h2r
  by_cases hqr : q ∣ r - 1
  · obtain ⟨c, hc⟩ := hqr
    have hc0 : c ≠ 0 := by rintro rfl; omega
    have hrc : r = 1 + (c - 1 + 1) * q := by
      rw [show c - 1 + 1 = c by omega, Nat.mul_comm]; omega
    by_cases hcK : c - 1 < K
    · have := hk (c - 1) hcK
      rw [← hrc] at this
      exact this (Nat.mod_eq_zero_of_dvd hd)
    · have hle : 1 + (K + 1) * q ≤ r := by
        rw [hrc]
        have := Nat.mul_le_mul_right q (show K + 1 ≤ c - 1 + 1 by omega)
        omega
      have := Nat.mul_le_mul hle hle
      omega
  · have hcop := hq.coprime hqr
    have hgR : Nat.gcd (n - 1) (r - 1) ∣ R := by
      rw [hnq]
      have hc2 : Nat.Coprime (Nat.gcd (q * R) (r - 1)) q := by
        have h := Nat.gcd_dvd_right (q * R) (r - 1)
        exact (Nat.Coprime.coprime_dvd_right h hcop).symm
      exact hc2.dvd_of_dvd_mul_left (Nat.gcd_dvd_left _ _)
    obtain ⟨c, hc⟩ := hgR
    have hR : g ^ R % r = 1 := by
      rw [hc, Nat.pow_mul, Nat.pow_mod, hgcd, Nat.one_pow, Nat.mod_eq_of_lt (show 1 < r by omega)]
    have hdr : r ∣ (g ^ R % n + n - 1) % n := by
      have e1 : (g ^ R % n + n - 1) % n % r = (g ^ R % n + n - 1) % r := Nat.mod_mod_of_dvd _ hd
      have e2 : g ^ R % n % r = 1 := by rw [Nat.mod_mod_of_dvd _ hd, hR]
      obtain ⟨d, hd'⟩ := hd
      refine Nat.dvd_of_mod_eq_zero ?_
      rw [e1]
      have e3 : g ^ R % n = r * (g ^ R % n / r) + 1 := by
        have := Nat.div_add_mod (g ^ R % n) r
        omega
      have e4 : g ^ R % n + n - 1 = r * (g ^ R % n / r + d) := by
        rw [Nat.mul_add, ← hd']; omega
      rw [e4, Nat.mul_mod_right]
    have := Nat.dvd_gcd hdr hd
    rw [h2] at this
    have := Nat.le_of_dvd (by omega) this
    omega

theorem trial {n : Nat} (hn : 2 ≤ n) {K : Nat} (hK : n < (K + 2) * (K + 2)) (h : ∀ k, k < K → n % (k + 2) ≠ 0) : Pr n := by
  rcases factor n hn with h' | ⟨r, hr, hd, hrr⟩
  · exact h'
  exfalso
  have h2 := hr.1
  by_cases hlt : r - 2 < K
  · have := h (r - 2) hlt
    rw [show r - 2 + 2 = r by omega] at this
    exact this (Nat.mod_eq_zero_of_dvd hd)
  · have := Nat.mul_le_mul (show K + 2 ≤ r by omega) (show K + 2 ≤ r by omega)
    omega

theorem pock' {n q R g K : Nat} (hn : 2 ≤ n) (hb : n < 2 ^ 256) (hq : Pr q) (hnq : n - 1 = q * R) (h1 : pm n 256 g (n - 1) = 1) (h2 : Nat.gcd ((pm n 256 g R + n - 1) % n) n = 1)
    (hK : n < (1 + (K + 1) * q) * (1 + (K + 1) * q)) (hk : ∀ k, k < K → n % (1 + (k + 1) * q) ≠ 0) : Pr n := by
  have hq2 := hq.1
  have hR : R ≤ n - 1 := by rw [hnq]; exact Nat.le_mul_of_pos_left R (by omega)
  rw [pm_eq _ _ _ _ (Nat.lt_of_le_of_lt (Nat.sub_le n 1) hb)] at h1
  rw [pm_eq _ _ _ _ (Nat.lt_of_le_of_lt hR (Nat.lt_of_le_of_lt (Nat.sub_le n 1) hb))] at h2
  exact pock hn hq hnq h1 h2 hK hk

theorem pr991 : Pr 991 := trial (K := 30) (by decide) (by decide) (by decide)
theorem pr1 : Pr 8574133 := pock' (q := 991) (R := 8652) (g := 2) (K := 2) (by decide) (by decide) pr991 (by decide) (by decide +kernel) (by decide +kernel) (by decide) (by decide)
theorem pr2 : Pr 1919519569386763 := pock' (q := 8574133) (R := 223873314) (g := 2) (K := 5) (by decide) (by decide) pr1 (by decide) (by decide +kernel) (by decide +kernel) (by decide) (by decide)
theorem pr3 : Pr 75445702479781427272750846543864801 := pock' (q := 1919519569386763) (R := 39304471641247389600) (g := 2) (K := 143) (by decide) (by decide) pr2 (by decide) (by decide +kernel) (by decide +kernel) (by decide) (by decide +kernel)
theorem pr4 : Pr 74058212732561358302231226437062788676166966415465897661863160754340907 := pock' (q := 75445702479781427272750846543864801) (R := 981609426360740691344999861639072106) (g := 2) (K := 3) (by decide) (by decide) pr3 (by decide) (by decide +kernel) (by decide +kernel) (by decide) (by decide)
/-- 2^255 - 19 is a prime number. -/
theorem prP : Pr 57896044618658097711785492504343953926634992332820282019728792003956564819949 := pock' (q := 74058212732561358302231226437062788676166966415465897661863160754340907) (R := 781764) (g := 2) (K := 0) (by decide) (by decide) pr4 (by decide) (by decide +kernel) (by decide +kernel) (by decide) (by decide)
end Go.Num

/-
  Numbers modulo p are a field: no product of others is 0, and the power p - 1 is 1. Conditions: none.
-/
namespace Go.Proofs.Ytbnclikjbnfodaa
open Go.Ev Go.Num

def pN : Nat := 57896044618658097711785492504343953926634992332820282019728792003956564819949
theorem p_pN : p = (pN : Int) := rfl
theorem zero_dvd {X : Int} : X % p = 0 ↔ pN ∣ X.natAbs := by
  rw [p_pN, ← Int.ofNat_dvd_left, Int.dvd_iff_emod_eq_zero]
theorem mul_zero' {X Y : Int} (h : X * Y % p = 0) : X % p = 0 ∨ Y % p = 0 := by
  rw [zero_dvd] at h ⊢
  rw [zero_dvd, Int.natAbs_mul] at *
  exact prP.dvd_mul h
theorem mul_ne {X Y : Int} (hx : X % p ≠ 0) (hy : Y % p ≠ 0) : X * Y % p ≠ 0 := fun h => (mul_zero' h).elim hx hy
theorem pow_ne {X : Int} (hx : X % p ≠ 0) : ∀ n : Nat, X ^ n % p ≠ 0
  | 0 => by rw [Int.pow_zero]; decide
  | n + 1 => by rw [Int.pow_succ]; exact mul_ne (pow_ne hx n) hx
theorem fermatI {X : Int} (hx : X % p ≠ 0) : X ^ (pN - 1) % p = 1 := fermat_int (q := pN) prP hx
/-- Equal modulo p. -/
theorem sub_zero' {X Y : Int} : (X - Y) % p = 0 ↔ X % p = Y % p := by
  constructor
  · intro h
    have : X = Y + (X - Y) := by omega
    rw [this, ← ar, h, Int.add_zero]
  · intro h
    rw [← sl, h, sl, Int.sub_self]; rfl
theorem cancel {X Y Z : Int} (hz : Z % p ≠ 0) (h : X * Z % p = Y * Z % p) : X % p = Y % p := by
  rw [← sub_zero'] at h ⊢
  rw [← Int.sub_mul] at h
  exact (mul_zero' h).resolve_right hz
theorem sq_eq {X Y : Int} (h : X * X % p = Y * Y % p) : X % p = Y % p ∨ X % p = (-Y) % p := by
  rw [← sub_zero', show X * X - Y * Y = (X - Y) * (X - -Y) by grind] at h
  rcases mul_zero' h with h | h
  · exact .inl (sub_zero'.1 h)
  · exact .inr (sub_zero'.1 h)
theorem powmul {A B C : Int} (n : Nat) (h : A % p = B * C % p) : A ^ n % p = (B ^ n % p) * (C ^ n % p) % p := by
  rw [← pow_emod', h, pow_emod', Int.mul_pow, Int.mul_emod]
theorem isZero_i {x : Nat → Int} {X : Int} (h : U5 x) (e : v5 x % p = X % p) : isZeroF x = decide (X % p = 0) := by
  show eqN 5 (reduceF x) (fun _ => 0) = _
  rw [eq5 (reduce_v h).2 R5_zero, (reduce_v h).1, v5_zero, e]
theorem pow_i {x e : Nat → Int} {n : Nat} (hx : U5 x) (he : B32 e) (hn : vb e = (n : Int)) : Is (powF x e) (v5 x ^ n) := by
  have h := pow_v hx he
  rw [hn, Int.toNat_natCast] at h
  exact h
theorem inv_i {x : Nat → Int} (hx : U5 x) : Is (invertF x) (v5 x ^ (pN - 2)) := inv_v hx
theorem powK {x e : Nat → Int} {n : Nat} {X : Int} (hx : Is x X) (he : B32 e) (hn : vb e = (n : Int)) : Is (powF x e) (X ^ n) := (pow_i hx.u he hn).to (by rw [hx.1, pow_emod'])
theorem invK {x : Nat → Int} {X : Int} (hx : Is x X) : Is (invertF x) (X ^ (pN - 2)) := (inv_i hx.u).to (by rw [hx.1, pow_emod'])
/-- X times its inverse. -/
theorem inv_mul {X : Int} (hx : X % p ≠ 0) : X * X ^ (pN - 2) % p = 1 := by
  have h := fermatI hx
  have e : pN - 1 = pN - 2 + 1 := rfl
  rw [e, Int.pow_succ, Int.mul_comm] at h
  exact h
end Go.Proofs.Ytbnclikjbnfodaa

/-
  FieldRing answers true, of any limbs that uint64 holds. Conditions: none.
-/
namespace Go.Proofs.Ytbnclikjbnfodaa
open Go.Ev Go.Num

theorem counts_true : countsB = true := by
  unfold countsB
  rw [addFO_eq, mulFO_eq, smallFO_eq, isZeroFO_eq]
  kernel_rfl

theorem ring_true {x y z : Nat → Int} (hx : U5 x) (hy : U5 y) (hz : U5 z) : lawRing x y z = true := by
  have i0 := small_i 0 (by omega) (by omega)
  have i1 := small_i 1 (by omega) (by omega)
  have s := select_i (y := y) hx
  have xy := mul_i hx hy
  have e1 := (add_i hx hy).same (add_i hy hx) (by omega)
  have e2 := xy.same (mul_i hy hx) (by grind)
  have e3 := ((add_i (add_i hx hy).u hz).to (Y := v5 x + v5 y + v5 z) (by rw [(add_i hx hy).1, al])).same ((add_i hx (add_i hy hz).u).to (Y := v5 x + (v5 y + v5 z)) (by rw [(add_i hy hz).1, ar])) (by omega)
  have e4 := ((mul_i xy.u hz).to (Y := v5 x * v5 y * v5 z) (by rw [xy.1, ml])).same ((mul_i hx (mul_i hy hz).u).to (Y := v5 x * (v5 y * v5 z)) (by rw [(mul_i hy hz).1, mr])) (by grind)
  have e5 := ((mul_i hx (add_i hy hz).u).to (Y := v5 x * (v5 y + v5 z)) (by rw [(add_i hy hz).1, mr])).same (addK xy (mul_i hx hz)) (by grind)
  have e6 := ((add_i hx i0.u).to (Y := v5 x + 0) (by rw [i0.1, ar])).same s (by omega)
  have e7 := ((mul_i hx i1.u).to (Y := v5 x * 1) (by rw [i1.1, mr])).same s (by omega)
  have e8 := ((mul_i hx i0.u).to (Y := v5 x * 0) (by rw [i0.1, mr])).same i0 (by omega)
  have e9 := ((add_i hx (neg_i hx).u).to (Y := v5 x + -v5 x) (by rw [(neg_i hx).1, ar])).same i0 (by omega)
  have e10 := (sub_i hx hy).same ((add_i hx (neg_i hy).u).to (Y := v5 x + -v5 y) (by rw [(neg_i hy).1, ar])) (by omega)
  have e11 := (sq_i hx).same (mul_i hx hx) rfl
  have e12 := (negK (neg_i hx)).same s (by omega)
  unfold lawRing
  rw [addFO_eq, mulFO_eq, smallFO_eq, selectFO_eq, negFO_eq, subFO_eq, squareFO_eq, e1, e2, e3, e4, e5, e6, e7, e8, e9, e10, e11, e12, counts_true]
  rfl

end Go.Proofs.Ytbnclikjbnfodaa

/-
  FieldInverse answers true. Conditions: none.
-/
namespace Go.Proofs.Ytbnclikjbnfodaa
open Go.Ev Go.Num

def B16 (b : Nat → Int) : Prop := ∀ j, j < 16 → 0 ≤ b j ∧ b j < 256
theorem wrap8i {a : Int} (h : 0 ≤ a ∧ a < 256) : IntKind.wrap .i64 a = a := wrap_i64 a (by omega)
/-- What goes over, in plain numbers. -/
def nO (a b : Nat → Int) : Nat → Int
  | 0 => 0
  | k + 1 => (nO a b k + a k + b k) / 256
theorem quo256 {a : Int} (h : 0 ≤ a ∧ a < 2000) : quoI .i64 a 256 = a / 256 := by
  obtain ⟨n, rfl⟩ := Int.eq_ofNat_of_zero_le h.1
  exact (quo_nat n 256 (by omega)).trans (by omega)
theorem rem256 {a : Int} (h : 0 ≤ a) : remI a 256 = a % 256 := by
  obtain ⟨n, rfl⟩ := Int.eq_ofNat_of_zero_le h
  exact (rem_nat n 256).trans (by omega)
theorem iO_v {a b : Nat → Int} (ha : B16 a) (hb : B16 b) : ∀ k, k ≤ 16 → iO a b k = nO a b k ∧ 0 ≤ nO a b k ∧ nO a b k ≤ 1
  | 0, _ => ⟨rfl, by simp [nO], by simp [nO]⟩
  | k + 1, hk => by
    obtain ⟨i1, i2, i3⟩ := iO_v ha hb k (by omega)
    have ha := ha k (by omega); have hb := hb k (by omega)
    simp only [iO, nO]
    rw [i1, wrap8i ha, wrap8i hb]
    rw [show addI .i64 (nO a b k) (a k) = nO a b k + a k from wrap_i64 _ (by omega), show addI .i64 (nO a b k + a k) (b k) = nO a b k + a k + b k from wrap_i64 _ (by omega), quo256 (by omega)]
    omega
/-- The sum's bytes, in plain numbers. -/
def nS (a b : Nat → Int) (j : Nat) : Int := if j < 16 then (nO a b j + a j + b j) % 256 else if j = 16 then nO a b 16 else 0
def nE (a : Nat → Int) (j : Nat) : Int := if j < 16 then a j else 0
theorem wrap_u8' {a : Int} (h : 0 ≤ a ∧ a < 256) : IntKind.wrap .u8 a = a := by rw [wrap_u8]; exact Int.emod_eq_of_lt h.1 h.2
theorem iS_at {a b : Nat → Int} (ha : B16 a) (hb : B16 b) {k : Nat} (hk : k < 16) :
    IntKind.wrap .u8 (remI (addI .i64 (addI .i64 (iO a b k) (IntKind.wrap .i64 (a k))) (IntKind.wrap .i64 (b k))) 256) = nS a b k := by
  obtain ⟨i1, i2, i3⟩ := iO_v ha hb k (by omega)
  have ha := ha k (by omega); have hb := hb k (by omega)
  rw [i1, wrap8i ha, wrap8i hb]
  rw [show addI .i64 (nO a b k) (a k) = nO a b k + a k from wrap_i64 _ (by omega), show addI .i64 (nO a b k + a k) (b k) = nO a b k + a k + b k from wrap_i64 _ (by omega), rem256 (by omega), wrap_u8' (by omega)]
  unfold nS; rw [if_pos hk]
theorem iS_v {a b : Nat → Int} (ha : B16 a) (hb : B16 b) : ∀ j, j < 32 → iS a b j = nS a b j := by
  have h16 : IntKind.wrap .u8 (iO a b 16) = nS a b 16 := by
    obtain ⟨i1, i2, i3⟩ := iO_v ha hb 16 (by omega)
    rw [i1, wrap_u8' (by omega)]; rfl
  exact thirtytwo (P := fun j => iS a b j = nS a b j) ⟨iS_at ha hb (by omega), iS_at ha hb (by omega), iS_at ha hb (by omega), iS_at ha hb (by omega), iS_at ha hb (by omega), iS_at ha hb (by omega), iS_at ha hb (by omega), iS_at ha hb (by omega), iS_at ha hb (by omega), iS_at ha hb (by omega), iS_at ha hb (by omega), iS_at ha hb (by omega), iS_at ha hb (by omega), iS_at ha hb (by omega), iS_at ha hb (by omega), iS_at ha hb (by omega), h16, rfl, rfl, rfl, rfl, rfl, rfl, rfl, rfl, rfl, rfl, rfl, rfl, rfl, rfl, rfl⟩
theorem iE_v (a : Nat → Int) : ∀ j, j < 32 → iE a j = nE a j := thirtytwo (P := fun j => iE a j = nE a j) ⟨rfl, rfl, rfl, rfl, rfl, rfl, rfl, rfl, rfl, rfl, rfl, rfl, rfl, rfl, rfl, rfl, rfl, rfl, rfl, rfl, rfl, rfl, rfl, rfl, rfl, rfl, rfl, rfl, rfl, rfl, rfl, rfl⟩

theorem nE_b {a : Nat → Int} (ha : B16 a) : B32 (iE a) := fun j hj => by
  rw [iE_v a j hj]; unfold nE; split
  · exact ha j (by omega)
  · omega
theorem nS_b {a b : Nat → Int} (ha : B16 a) (hb : B16 b) : B32 (iS a b) := fun j hj => by
  rw [iS_v ha hb j hj]; unfold nS
  have := iO_v ha hb 16 (by omega)
  split
  · omega
  · split <;> omega
theorem dv_tail0 {B : Int} {f : Nat → Int} : ∀ n, (∀ j, j < n → f j = 0) → dv B n f = 0 := fun _ h => (dv_congr (b := fun _ => 0) h).trans dv_zero
theorem vb_E (a : Nat → Int) : vb (iE a) = dv 256 16 a := by
  unfold vb
  rw [dv_congr (iE_v a), show 32 = 16 + 16 from rfl, dv_split, dv_tail0 (f := fun i => nE a (16 + i)) 16 (fun j _ => by unfold nE; rw [if_neg (by omega)]), Int.mul_zero, Int.add_zero]
  exact dv_congr fun j hj => by simp [nE, hj]
theorem sum_low (a b : Nat → Int) : ∀ n, n ≤ 16 → dv 256 n (nS a b) + pw 256 n * nO a b n = dv 256 n a + dv 256 n b
  | 0, _ => by simp [dv, nO]
  | n + 1, h => by
    have ih := sum_low a b n (by omega)
    rw [dv_split (n := n) (m := 1), dv_split (n := n) (m := 1), dv_split (n := n) (m := 1)]
    simp only [dv, Nat.add_zero, Int.mul_zero, Int.add_zero]
    have e : nS a b n = (nO a b n + a n + b n) % 256 := by unfold nS; rw [if_pos (by omega)]
    have e2 : nO a b (n + 1) = (nO a b n + a n + b n) / 256 := rfl
    have e3 := Int.emod_add_mul_ediv (nO a b n + a n + b n) 256
    rw [← e, ← e2] at e3
    rw [show pw 256 (n + 1) = 256 * pw 256 n from rfl]
    grind
theorem vb_S {a b : Nat → Int} (ha : B16 a) (hb : B16 b) : vb (iS a b) = dv 256 16 a + dv 256 16 b := by
  unfold vb
  rw [dv_congr (iS_v ha hb), ← sum_low a b 16 (by omega), show 32 = 16 + 16 from rfl, dv_split, show (16 : Nat) = 1 + 15 from rfl, dv_split (n := 1) (m := 15) (a := fun i => nS a b (1 + 15 + i)), dv_tail0 (f := fun i => nS a b (16 + (1 + i))) 15 (fun j _ => by unfold nS; rw [if_neg (by omega), if_neg (by omega)])]
  simp only [dv, Int.mul_zero, Int.add_zero]
  rfl

theorem powP1 : B32 (lawPow 236 127) := by unfold B32; decide
theorem powP1_v : vb (lawPow 236 127) = ((pN - 1 : Nat) : Int) := by decide
theorem pow1 : B32 (up 0 1 (fun _ => 0)) := by unfold B32; decide
theorem pow1_v : vb (up 0 1 (fun _ => 0)) = ((1 : Nat) : Int) := by decide
theorem pow0 : B32 (fun _ => 0) := fun j _ => by simp
theorem pow0_v : vb (fun _ => 0) = ((0 : Nat) : Int) := dv_zero

theorem inverse_true {x a b : Nat → Int} (hx : U5 x) (ha : B16 a) (hb : B16 b) : lawInverse x a b = true := by
  have hy := inv_i hx
  have h1 := small_i 1 (by omega) (by omega)
  unfold lawInverse
  rw [isZeroFO_eq, invertFO_eq, countsBO_eq, counts_true, mulFO_eq, smallFO_eq, powFO_eq, selectFO_eq, isZero_i hx rfl, isZero_i hy.u hy.v]
  by_cases h0 : v5 x % p = 0
  · rw [decide_eq_true h0, cond_true]
    have : v5 x ^ (pN - 2) % p = 0 := by rw [← pow_emod', h0, Int.zero_pow (by decide)]; rfl
    rw [decide_eq_true this]
    rfl
  · rw [decide_eq_false h0, cond_false]
    have hs := select_i (y := invertF x) hx
    have e1 : eqN 5 (mulF x (invertF x)) (smallF 1) = true := by
      rw [((mul_i hx hy.u).to (Y := v5 x * v5 x ^ (pN - 2)) (by rw [hy.1, mr])).eqn h1, inv_mul h0]; decide
    have e2 : eqN 5 (powF x (lawPow 236 127)) (smallF 1) = true := by
      rw [(pow_i hx powP1 powP1_v).eqn h1, fermatI h0]; decide
    have e3 : eqN 5 (invertF (invertF x)) (selectF true x (invertF x)) = true := by
      rw [(invK hy).eqn hs]
      refine decide_eq_true ?_
      have e : (v5 x ^ (pN - 2)) ^ (pN - 2) = (v5 x ^ (pN - 1)) ^ (pN - 3) * v5 x := by
        rw [← Int.pow_mul, ← Int.pow_mul, ← Int.pow_succ]
        exact congrArg (fun k : Nat => v5 x ^ k) (by decide)
      rw [e, Int.mul_emod, ← pow_emod', fermatI h0, Int.one_pow, ← Int.mul_emod, Int.one_mul]
    have A0 : 0 ≤ dv 256 16 a := (dv_bound (by omega) ha).1
    have B0 : 0 ≤ dv 256 16 b := (dv_bound (by omega) hb).1
    obtain ⟨A, hA⟩ := Int.eq_ofNat_of_zero_le A0
    obtain ⟨B, hB⟩ := Int.eq_ofNat_of_zero_le B0
    have pa := pow_i (n := A) hx (nE_b ha) (by rw [vb_E, hA])
    have pb := pow_i (n := B) hx (nE_b hb) (by rw [vb_E, hB])
    have ps := pow_i (n := A + B) hx (nS_b ha hb) (by rw [vb_S ha hb, hA, hB]; rfl)
    have e4 : eqN 5 (mulF (powF x (iE a)) (powF x (iE b))) (powF x (iS a b)) = true := (mulK pa pb).same ps (Int.pow_add ..).symm
    have e5 : eqN 5 (powF x (up 0 1 (fun _ => 0))) (selectF true x (invertF x)) = true := (pow_i hx pow1 pow1_v).same hs (Int.pow_one _)
    have e6 : eqN 5 (powF x (fun _ => 0)) (smallF 1) = true := (pow_i hx pow0 pow0_v).same h1 (Int.pow_zero _)
    rw [e1, e2, e3, e4, e5, e6]
    rfl
end Go.Proofs.Ytbnclikjbnfodaa

/-
  FieldTells answers true, of any limbs that uint64 holds. Conditions: none.
-/
namespace Go.Proofs.Ytbnclikjbnfodaa
open Go.Ev Go.Num

theorem equal_v {x y : Nat → Int} (hx : U5 x) (hy : U5 y) : equalF x y = decide (v5 x % p = v5 y % p) := by
  obtain ⟨a1, a2⟩ := reduce_v hx
  obtain ⟨b1, b2⟩ := reduce_v hy
  show eqN 5 (reduceF x) (reduceF y) = _
  rw [eq5 a2 b2, a1, b1]
theorem isZero_v {x : Nat → Int} (hx : U5 x) : isZeroF x = decide (v5 x % p = 0) := by
  obtain ⟨a1, a2⟩ := reduce_v hx
  show eqN 5 (reduceF x) (fun _ => 0) = _
  rw [eq5 a2 R5_zero, a1, v5_zero]
theorem isOdd_v {x : Nat → Int} (hx : U5 x) : isOddF x = (v5 x % p % 2 == 1) := by
  obtain ⟨a1, a2⟩ := reduce_v hx
  have e : v5 x % p % 2 = reduceF x 0 % 2 := by rw [← a1, v5_eq]; omega
  rw [e, ← and1]; rfl
theorem rIsZero_v {a : Nat → Int} (h : D10 a) : rIsZero a = decide (v10 a = 0) := by
  show eqN 10 a (fun _ => 0) = _
  rw [eq10 h D10_zero, v10_zero]
theorem rIsOdd_v (a : Nat → Int) : rIsOdd a = (v10 a % 2 == 1) := by
  have e : v10 a % 2 = a 0 % 2 := by rw [v10_eq]; omega
  rw [e, ← and1]; rfl

theorem tells_true {x y : Nat → Int} (hx : U5 x) (hy : U5 y) (c : Bool) : lawTells x y c = true := by
  obtain ⟨a1, a2⟩ := of_r hx
  obtain ⟨b1, b2⟩ := of_r hy
  have e1 : (equalF x y == eqN 10 (rOf x) (rOf y)) = true := by rw [equal_v hx hy, eq10 a2 b2, a1, b1]; simp
  have e2 : (isZeroF x == rIsZero (rOf x)) = true := by rw [isZero_v hx, rIsZero_v a2, a1]; simp
  have e3 : (isOddF x == rIsOdd (rOf x)) = true := by rw [isOdd_v hx, rIsOdd_v, a1]; simp
  obtain ⟨r1, r2⟩ := reduce_v hx
  obtain ⟨s1, s2⟩ := reduce_v hy
  unfold lawTells
  rw [e1, e2, e3]
  simp only [Bool.not_true, cond_false, selectF, cond_true]
  cases c with
  | true => rw [cond_true]; exact is_of r2 a2 (by rw [r1, a1])
  | false => rw [cond_false]; exact is_of s2 b2 (by rw [s1, b1])

end Go.Proofs.Ytbnclikjbnfodaa

/-
  Roots of quotients modulo p: what both sides come to. Conditions: none.
-/
namespace Go.Proofs.Ytbnclikjbnfodaa
open Go.Ev Go.Num

def E8 : Nat := 7237005577332262213973186563042994240829374041602535252466099000494570602493
def Q4 : Nat := 14474011154664524427946373126085988481658748083205070504932198000989141204987
theorem E8_Q4 : 2 * E8 + 1 = Q4 := by decide
theorem Q4_4 : 4 * Q4 = pN - 1 := by decide
theorem E8_8 : 8 * E8 + 4 = pN - 1 := by decide

/-- The same modulo p. -/
def Eqp (a b : Int) : Prop := a % p = b % p
theorem Eqp.refl (a : Int) : Eqp a a := rfl
theorem Eqp.of {a b : Int} (h : a = b) : Eqp a b := by rw [h]; rfl
theorem Eqp.symm {a b : Int} (h : Eqp a b) : Eqp b a := Eq.symm h
theorem Eqp.trans {a b c : Int} (h : Eqp a b) (h' : Eqp b c) : Eqp a c := Eq.trans h h'
theorem Eqp.mul {a b c d : Int} (h : Eqp a b) (h' : Eqp c d) : Eqp (a * c) (b * d) := by unfold Eqp at *; rw [← ml, ← mr, h, h', ml, mr]
theorem Eqp.add {a b c d : Int} (h : Eqp a b) (h' : Eqp c d) : Eqp (a + c) (b + d) := by unfold Eqp at *; rw [← al, ← ar, h, h', al, ar]
theorem Eqp.neg {a b : Int} (h : Eqp a b) : Eqp (-a) (-b) := by unfold Eqp at *; rw [← nm, h, nm]
theorem Eqp.pow {a b : Int} (h : Eqp a b) (n : Nat) : Eqp (a ^ n) (b ^ n) := by unfold Eqp at *; rw [← pow_emod', h, pow_emod']
theorem Eqp.mod (a : Int) : Eqp (a % p) a := me a
theorem fermE {X : Int} (hx : X % p ≠ 0) : Eqp (X ^ (pN - 1)) 1 := by unfold Eqp; rw [fermatI hx]; rfl
theorem fermK {X : Int} (hx : X % p ≠ 0) (k : Nat) : Eqp (X ^ ((pN - 1) * k)) 1 := by
  rw [Int.pow_mul]; exact ((fermE hx).pow k).trans (.of (Int.one_pow ..))

/-- The quotient. -/
def quot (U V : Int) : Int := U * V ^ (pN - 2)
theorem quot_mul {U V : Int} (hV : V % p ≠ 0) : Eqp (quot U V * V) U := by
  have h : Eqp (V * V ^ (pN - 2)) 1 := by unfold Eqp; rw [inv_mul hV]; rfl
  have e : quot U V * V = U * (V * V ^ (pN - 2)) := by unfold quot; grind
  rw [e]
  exact ((Eqp.refl U).mul h).trans (.of (Int.mul_one _))

/-- The program's root is the quotient's power (p + 3) / 8. -/
theorem root_same {U V : Int} (hV : V % p ≠ 0) : Eqp (U * (V * V * V) * (U * (V * V * V * (V * V * V)) * V) ^ E8) (quot U V ^ (E8 + 1)) := by
  have hq := quot_mul (U := U) hV
  generalize quot U V = X at *
  have h1 : Eqp (U * (V * V * V) * (U * (V * V * V * (V * V * V)) * V) ^ E8) (X * V * (V * V * V) * (X * V * (V * V * V * (V * V * V)) * V) ^ E8) :=
    (hq.symm.mul (.refl _)).mul (((hq.symm.mul (.refl _)).mul (.refl _)).pow _)
  refine h1.trans ?_
  have e : X * V * (V * V * V) * (X * V * (V * V * V * (V * V * V)) * V) ^ E8 = X ^ (E8 + 1) * V ^ (pN - 1) := by
    rw [← E8_8, show V ^ (8 * E8 + 4) = (V ^ 8) ^ E8 * V ^ 4 by rw [Int.pow_add, Int.pow_mul], show X ^ (E8 + 1) = X ^ E8 * X from Int.pow_succ .., show X * V * (V * V * V * (V * V * V)) * V = X * V ^ 8 by grind, Int.mul_pow]
    generalize X ^ E8 = A
    generalize (V ^ 8) ^ E8 = B
    grind
  rw [e]
  exact ((Eqp.refl _).mul (fermE hV)).trans (.of (Int.mul_one _))

/-- The square of the quotient's power. -/
theorem root_sq (X : Int) : X ^ (E8 + 1) * X ^ (E8 + 1) = X * X ^ Q4 := by
  rw [← E8_Q4, ← Int.pow_add, ← Int.pow_succ']
  exact congrArg (fun k : Nat => X ^ k) (by omega)

theorem eqp_iff_mul {A B V : Int} (hV : V % p ≠ 0) : Eqp (A * V) (B * V) ↔ Eqp A B := ⟨fun h => cancel hV h, fun h => h.mul (.refl V)⟩

/-- The test of the program and the test of the document. -/
theorem test1 {U V R : Int} (hV : V % p ≠ 0) (hR : Eqp R (quot U V ^ (E8 + 1))) : Eqp (V * (R * R)) U ↔ Eqp (quot U V * quot U V ^ Q4) (quot U V) := by
  have h1 : Eqp (V * (R * R)) (quot U V * quot U V ^ Q4 * V) := by
    have e : quot U V * quot U V ^ Q4 * V = V * (quot U V ^ (E8 + 1) * quot U V ^ (E8 + 1)) := by rw [root_sq]; grind
    rw [e]; exact (Eqp.refl V).mul (hR.mul hR)
  have hq := quot_mul (U := U) hV
  constructor
  · intro h
    exact (eqp_iff_mul hV).1 ((h1.symm.trans h).trans hq.symm)
  · intro h
    exact (h1.trans ((eqp_iff_mul hV).2 h)).trans hq
theorem test2 {U V R : Int} (hV : V % p ≠ 0) (hR : Eqp R (quot U V ^ (E8 + 1))) : Eqp (V * (R * R)) (-U) ↔ Eqp (quot U V * quot U V ^ Q4) (-quot U V) := by
  have h1 : Eqp (V * (R * R)) (quot U V * quot U V ^ Q4 * V) := by
    have e : quot U V * quot U V ^ Q4 * V = V * (quot U V ^ (E8 + 1) * quot U V ^ (E8 + 1)) := by rw [root_sq]; grind
    rw [e]; exact (Eqp.refl V).mul (hR.mul hR)
  have hq : Eqp (-quot U V * V) (-U) := by
    have := (quot_mul (U := U) hV).neg
    rwa [← Int.neg_mul] at this
  constructor
  · intro h
    exact (eqp_iff_mul hV).1 ((h1.symm.trans h).trans hq.symm)
  · intro h
    exact (h1.trans ((eqp_iff_mul hV).2 h)).trans hq

/-- The root of -1. -/
def I4 : Int := 2 ^ Q4
theorem two_sq (n : Nat) : (2 : Int) ^ n * 2 ^ n = 2 ^ (2 * n) := by rw [← Int.pow_add, show n + n = 2 * n by omega]
theorem pm_int {n : Nat} (h : n < 2 ^ 256) : (2 : Int) ^ n % p = ((pm pN 256 2 n : Nat) : Int) := by
  rw [pm_eq _ _ _ _ h, p_pN]
  push_cast
  rfl
theorem I4_sq : Eqp (I4 * I4) (-1) := by
  unfold Eqp I4
  rw [two_sq, pm_int (by decide)]
  decide +kernel

/-- An even one of a number and its negative, reduced. -/
def ev (Z : Int) : Int := if Z % p % 2 = 1 then -Z else Z
theorem select_ev {r : Nat → Int} {Z : Int} (h : Is r Z) : Is (selectF (isOddF r) (negF r) r) (ev Z) := by
  rw [isOdd_v h.u, h.v]
  unfold ev
  by_cases e : Z % p % 2 = 1
  · rw [if_pos e, e]
    exact (select_i (y := r) (negK h).u).to (negK h).v
  · rw [if_neg e, show (Z % p % 2 == 1) = false by simpa using e]
    exact (select_i' (x := negF r) h.u).to h.v
/-- The document's digits that mean Z. -/
def Ir (a : Nat → Int) (Z : Int) : Prop := v10 a = Z % p ∧ D10 a
theorem Ir.to {x : Nat → Int} {X Y : Int} (h : Ir x X) (e : Eqp X Y) : Ir x Y := ⟨by rw [h.1]; exact e, h.2⟩
theorem ofI {x : Nat → Int} (h : U5 x) : Ir (rOf x) (v5 x) := of_r h
theorem mulR {a b : Nat → Int} {X Y : Int} (ha : Ir a X) (hb : Ir b Y) : Ir (rMul a b) (X * Y) := by
  obtain ⟨h1, h2⟩ := mul_r ha.2 hb.2
  exact ⟨by rw [h1, ha.1, hb.1, ml, mr], h2⟩
theorem powR {a e : Nat → Int} {X : Int} {n : Nat} (ha : Ir a X) (he : B32 e) (hn : vb e = (n : Int)) : Ir (rPow a e) (X ^ n) := by
  obtain ⟨h1, h2⟩ := pow_r ha.2 he
  rw [hn, Int.toNat_natCast, ha.1, pow_emod'] at h1
  exact ⟨h1, h2⟩
theorem invR {a : Nat → Int} {X : Int} (ha : Ir a X) : Ir (rInvert a) (X ^ (pN - 2)) := by
  obtain ⟨h1, h2⟩ := inv_r ha.2
  rw [ha.1, pow_emod'] at h1
  exact ⟨h1, h2⟩
theorem smallR (n : Int) (h0 : 0 ≤ n) (h1 : n < 18446744073709551616) : Ir (rSmall n) n := by
  obtain ⟨s1, s2⟩ := small_r h0 h1
  exact ⟨by rw [s1]; exact (Int.emod_eq_of_lt h0 (by unfold p; omega)).symm, s2⟩
theorem even_ev {a : Nat → Int} {Z : Int} (h : Ir a Z) : Ir (rEven a) (ev Z) := by
  unfold rEven
  rw [rIsOddO_eq, rNegO_eq, rIsOdd_v, h.1]
  unfold ev
  by_cases e : Z % p % 2 = 1
  · rw [if_pos e, e]
    obtain ⟨h1, h2⟩ := neg_r h.2
    exact ⟨by show v10 (rNeg a) = _; rw [h1, h.1, nm], h2⟩
  · rw [if_neg e, show (Z % p % 2 == 1) = false by simpa using e]
    exact h
theorem eqR {a b : Nat → Int} {X Y : Int} (ha : Ir a X) (hb : Ir b Y) : eqN 10 a b = decide (X % p = Y % p) := by rw [eq10 ha.2 hb.2, ha.1, hb.1]
theorem isEI {x a : Nat → Int} {X Y : Int} (hx : Is x X) (ha : Ir a Y) (h : Eqp X Y) : isE x a = true := is_of hx.2 ha.2 (by rw [hx.1, ha.1]; exact h)

theorem pb1 : B32 (power255 253 15) := by unfold B32; decide
theorem pb1_v : vb (power255 253 15) = (E8 : Int) := by decide
theorem pb2 : B32 (power255 251 31) := by unfold B32; decide
theorem pb2_v : vb (power255 251 31) = (Q4 : Int) := by decide
theorem pb3 : B32 (rPower 254 15) := by unfold B32; decide
theorem pb3_v : vb (rPower 254 15) = ((E8 + 1 : Nat) : Int) := by decide
theorem pb4 : B32 (rPower 251 31) := by unfold B32; decide
theorem pb4_v : vb (rPower 251 31) = (Q4 : Int) := by decide

theorem Ir0 : Ir (fun _ => 0) 0 := ⟨v10_zero, D10_zero⟩
theorem Is0 : Is (fun _ => 0) 0 := ⟨v5_zero, R5_zero⟩

/-- What SqrtRatio says, in numbers. -/
def sqZ (U V : Int) : Int × Bool :=
  if V % p = 0 then (0, decide (U % p = 0))
  else if quot U V * quot U V ^ Q4 % p = quot U V % p then (ev (quot U V ^ (E8 + 1)), true)
  else if quot U V * quot U V ^ Q4 % p = -quot U V % p then (ev (quot U V ^ (E8 + 1) * I4), true)
  else (0, false)

theorem ev_eqp {A B : Int} (h : Eqp A B) : Eqp (ev A) (ev B) := by
  unfold ev
  rw [show A % p = B % p from h]
  split
  · exact h.neg
  · exact h

theorem sqrt_v {u y : Nat → Int} (hu : U5 u) (hy : U5 y) : Is (sqrtF u y).1 (sqZ (v5 u) (v5 y)).1 ∧ (sqrtF u y).2 = (sqZ (v5 u) (v5 y)).2 := by
  unfold sqrtF sqZ
  rw [isZeroFO_eq, equalFO_eq, mulFO_eq, squareFO_eq, powFO_eq, negFO_eq, selectFO_eq, isOddFO_eq, smallFO_eq, isZero_i hy rfl, isZero_i hu rfl]
  by_cases h0 : v5 y % p = 0
  · rw [decide_eq_true h0, cond_true, if_pos h0]
    exact ⟨Is0, rfl⟩
  · rw [decide_eq_false h0, cond_false, if_neg h0]
    have U : Is (reduceF u) (v5 u) := reduce_i hu
    have s2 := sq_i hy
    have v3 : Is (mulF (squareF y) y) (v5 y * v5 y * v5 y) := (mul_i s2.u hy).to (by rw [s2.1, ml])
    have s6 := sqK v3
    have w1 : Is (mulF u (squareF (mulF (squareF y) y))) (v5 u * (v5 y * v5 y * v5 y * (v5 y * v5 y * v5 y))) := (mul_i hu s6.u).to (by rw [s6.1, mr])
    have w2 : Is (mulF (mulF u (squareF (mulF (squareF y) y))) y) (v5 u * (v5 y * v5 y * v5 y * (v5 y * v5 y * v5 y)) * v5 y) := (mul_i w1.u hy).to (by rw [w1.1, ml])
    have pw := powK w2 pb1 pb1_v
    have uv : Is (mulF u (mulF (squareF y) y)) (v5 u * (v5 y * v5 y * v5 y)) := (mul_i hu v3.u).to (by rw [v3.1, mr])
    have r0 := (mulK uv pw).to (root_same (U := v5 u) h0)
    generalize mulF (mulF u (mulF (squareF y) y)) (powF (mulF (mulF u (squareF (mulF (squareF y) y))) y) (power255 253 15)) = r at *
    have rr := sqK r0
    have vr : Is (mulF y (squareF r)) (v5 y * (quot (v5 u) (v5 y) ^ (E8 + 1) * quot (v5 u) (v5 y) ^ (E8 + 1))) := (mul_i hy rr.u).to (by rw [rr.1, mr])
    have t1 := test1 (U := v5 u) h0 (.refl _)
    have t2 := test2 (U := v5 u) h0 (.refl _)
    unfold Eqp at t1 t2
    have e1 : equalF (mulF y (squareF r)) u = decide (quot (v5 u) (v5 y) * quot (v5 u) (v5 y) ^ Q4 % p = quot (v5 u) (v5 y) % p) := by
      rw [equal_v vr.u hu, vr.v]; exact decide_eq_decide.2 t1
    have e2 : equalF (mulF y (squareF r)) (negF u) = decide (quot (v5 u) (v5 y) * quot (v5 u) (v5 y) ^ Q4 % p = -quot (v5 u) (v5 y) % p) := by
      rw [equal_v vr.u (neg_i hu).u, vr.v, (neg_i hu).v]; exact decide_eq_decide.2 t2
    rw [e1, e2]
    by_cases c1 : quot (v5 u) (v5 y) * quot (v5 u) (v5 y) ^ Q4 % p = quot (v5 u) (v5 y) % p
    · rw [decide_eq_true c1, cond_true, if_pos c1]
      exact ⟨select_ev r0, rfl⟩
    · rw [decide_eq_false c1, cond_false, if_neg c1]
      by_cases c2 : quot (v5 u) (v5 y) * quot (v5 u) (v5 y) ^ Q4 % p = -quot (v5 u) (v5 y) % p
      · rw [decide_eq_true c2, cond_true, if_pos c2]
        exact ⟨select_ev (mulK r0 (powK (small_i 2 (by omega) (by omega)) pb2 pb2_v)), rfl⟩
      · rw [decide_eq_false c2, cond_false, if_neg c2]
        exact ⟨Is0, rfl⟩

theorem sqrt_r {a b : Nat → Int} {U V : Int} (ha : Ir a U) (hb : Ir b V) : Ir (rSqrt a b).1 (sqZ U V).1 ∧ (rSqrt a b).2 = (sqZ U V).2 := by
  have z : ∀ {a : Nat → Int} {X : Int}, Ir a X → rIsZero a = decide (X % p = 0) := fun h => by rw [rIsZero_v h.2, h.1]
  unfold rSqrt sqZ
  rw [rIsZeroO_eq, rMulO_eq, rPowO_eq, rInvertO_eq, rEvenO_eq, rSmallO_eq, z ha, z hb]
  by_cases h0 : V % p = 0
  · rw [decide_eq_true h0, cond_true, if_pos h0]
    exact ⟨Ir0, rfl⟩
  · rw [decide_eq_false h0, cond_false, if_neg h0]
    have x : Ir (rMul a (rInvert b)) (quot U V) := mulR ha (invR hb)
    generalize rMul a (rInvert b) = c at *
    have r := powR x pb3 pb3_v
    generalize rPow c (rPower 254 15) = r' at *
    have rr := mulR r r
    have i := powR (smallR 2 (by omega) (by omega)) pb4 pb4_v
    generalize rPow (rSmall 2) (rPower 251 31) = i' at *
    have ri := mulR r i
    generalize rMul r' i' = k at *
    have kk := mulR ri ri
    have e1 : eqN 10 (rMul r' r') c = decide (quot U V * quot U V ^ Q4 % p = quot U V % p) := by
      rw [eqR rr x, root_sq]
    have e2 : eqN 10 (rMul k k) c = decide (quot U V * quot U V ^ Q4 % p = -quot U V % p) := by
      rw [eqR kk x]
      have h : Eqp (quot U V ^ (E8 + 1) * 2 ^ Q4 * (quot U V ^ (E8 + 1) * 2 ^ Q4)) (-(quot U V * quot U V ^ Q4)) := by
        rw [← root_sq, show quot U V ^ (E8 + 1) * 2 ^ Q4 * (quot U V ^ (E8 + 1) * 2 ^ Q4) = quot U V ^ (E8 + 1) * quot U V ^ (E8 + 1) * (I4 * I4) by unfold I4; grind]
        exact ((Eqp.refl _).mul I4_sq).trans (.of (by grind))
      refine decide_eq_decide.2 ⟨fun g => ?_, fun g => ?_⟩
      · have g2 := (h.symm.trans g).neg
        rwa [Int.neg_neg] at g2
      · have g2 : Eqp (quot U V * quot U V ^ Q4) (-quot U V) := g
        have g3 := g2.neg
        rw [Int.neg_neg] at g3
        exact h.trans g3
    rw [e1, e2]
    by_cases c1 : quot U V * quot U V ^ Q4 % p = quot U V % p
    · rw [decide_eq_true c1, cond_true, if_pos c1]
      exact ⟨even_ev r, rfl⟩
    · rw [decide_eq_false c1, cond_false, if_neg c1]
      by_cases c2 : quot U V * quot U V ^ Q4 % p = -quot U V % p
      · rw [decide_eq_true c2, cond_true, if_pos c2]
        exact ⟨even_ev ri, rfl⟩
      · rw [decide_eq_false c2, cond_false, if_neg c2]
        exact ⟨Ir0, rfl⟩
end Go.Proofs.Ytbnclikjbnfodaa

/-
  The numbers modulo p as a ring of their own, and the curve's group over them. Conditions: none.
-/
namespace Go.Proofs.Ytbnclikjbnfodaa
set_option maxRecDepth 100000
open Go.Ev Go.Num

/-- Numbers modulo p. -/
abbrev K := Fin 57896044618658097711785492504343953926634992332820282019728792003956564819949
def kk (n : Int) : K := ⟨(n % p).toNat, by unfold p; omega⟩
theorem kk_val (n : Int) : ((kk n).val : Int) = n % p := by unfold kk p; simp only; omega
theorem kk_iff {a b : Int} : kk a = kk b ↔ a % p = b % p := by
  constructor
  · intro h
    rw [← kk_val, ← kk_val, h]
  · intro h
    exact Fin.ext (by have := kk_val a; have := kk_val b; omega)
theorem kk_of (k : K) : kk (k.val : Int) = k := Fin.ext (by have := kk_val (k.val : Int); have := k.isLt; unfold p at *; omega)
theorem kk_add (a b : Int) : kk (a + b) = kk a + kk b := Fin.ext (by
  rw [Fin.val_add]
  have := kk_val a; have := kk_val b; have := kk_val (a + b)
  unfold p at *; omega)
theorem kk_mul (a b : Int) : kk (a * b) = kk a * kk b := Fin.ext (by
  rw [Fin.val_mul]
  have h1 := kk_val a; have h2 := kk_val b; have h := kk_val (a * b)
  rw [Int.mul_emod, ← h1, ← h2, ← Int.natCast_mul] at h
  generalize (kk a).val * (kk b).val = m at *
  unfold p at *; omega)
theorem kk_0 : kk 0 = 0 := rfl
theorem kk_1 : kk 1 = 1 := rfl
theorem kk_neg (a : Int) : kk (-a) = -kk a := by
  have h : kk (-a) + kk a = 0 := by rw [← kk_add, Int.add_left_neg]; rfl
  grind -lia
theorem kk_sub (a b : Int) : kk (a - b) = kk a - kk b := by
  have h : kk (a - b) + kk b = kk a := by rw [← kk_add, Int.sub_add_cancel]
  grind -lia

theorem k_mul_zero {a b : K} (h : a * b = 0) : a = 0 ∨ b = 0 := by
  rw [← kk_of a, ← kk_of b, ← kk_mul, ← kk_0, kk_iff] at h
  rcases mul_zero' h with h | h
  · exact .inl (by rw [← kk_of a, ← kk_0]; exact kk_iff.2 h)
  · exact .inr (by rw [← kk_of b, ← kk_0]; exact kk_iff.2 h)
theorem k_mul_ne {a b : K} (ha : a ≠ 0) (hb : b ≠ 0) : a * b ≠ 0 := fun h => (k_mul_zero h).elim ha hb
theorem k_cancel {a b c : K} (hc : c ≠ 0) (h : a * c = b * c) : a = b := by
  have h' : (a - b) * c = 0 := by grind -lia
  have := (k_mul_zero h').resolve_right hc
  grind -lia
/-- The inverse; of 0: 0. -/
def ki (k : K) : K := kk ((k.val : Int) ^ (pN - 2))
theorem ki_mul {k : K} (h : k ≠ 0) : k * ki k = 1 := by
  have e : k * ki k = kk ((k.val : Int) * (k.val : Int) ^ (pN - 2)) := by rw [kk_mul, kk_of]; rfl
  rw [e, ← kk_1, kk_iff, inv_mul]
  · rfl
  · intro h0
    apply h
    rw [← kk_of k, ← kk_0, kk_iff]; exact h0
theorem kk_inv (a : Int) : kk (a ^ (pN - 2)) = ki (kk a) := by
  unfold ki
  rw [kk_iff, kk_val, pow_emod']
theorem ki_ne {k : K} (h : k ≠ 0) : ki k ≠ 0 := fun h0 => by
  have := ki_mul h
  rw [h0] at this
  exact absurd this (by rw [Fin.mul_zero]; decide)

/-! ### The curve -/
/-- The curve's number. -/
def dI : Int := 37095705934669439343138083508754565189542113879843219016388785533085940283555
noncomputable def D : K := kk dI
theorem dI_pow : dI ^ (2 * Q4) % p = p - 1 := by
  rw [show dI = ((dI.toNat : Nat) : Int) from rfl]
  have h := pm_eq pN 256 dI.toNat (2 * Q4) (by decide)
  rw [p_pN, ← Int.natCast_pow, ← Int.natCast_emod, ← h]
  decide +kernel
theorem D_ne : D ≠ 0 := by
  unfold D
  rw [← kk_0, Ne, kk_iff]
  decide
/-- It is no square. -/
theorem D_sq (k : K) : k * k ≠ D := by
  intro h
  unfold D at h
  rw [← kk_of k, ← kk_mul, kk_iff] at h
  have h2 := dI_pow
  rw [← pow_emod', ← h, pow_emod', show (k.val : Int) * k.val = (k.val : Int) ^ 2 by grind, ← Int.pow_mul, show 2 * (2 * Q4) = pN - 1 from rfl] at h2
  have hk : (k.val : Int) % p ≠ 0 := fun h0 => by
    apply D_ne
    unfold D
    rw [← kk_0, kk_iff, ← h, Int.mul_emod, h0]; rfl
  rw [fermatI hk] at h2
  exact absurd h2 (by decide)
/-- A root of -1. -/
noncomputable def I : K := kk I4
theorem I_sq : I * I = -1 := by
  unfold I
  rw [← kk_mul, kk_iff.2 I4_sq, kk_neg]; rfl

def OnK (x y : K) : Prop := y * y - x * x = 1 + D * x * x * y * y
/-- No denominator of a sum is 0. -/
theorem full' {d i x1 y1 x2 y2 e : K} (hi : i * i = -1) (hd : ∀ k : K, k * k ≠ d) (h1 : y1 * y1 - x1 * x1 = 1 + d * x1 * x1 * y1 * y1) (h2 : y2 * y2 - x2 * x2 = 1 + d * x2 * x2 * y2 * y2) (he : e = d * x1 * x2 * y1 * y2) : e * e ≠ 1 := by
  intro h
  have key1 : d * ((x1 * y1) * (i * x2 + y2)) * ((x1 * y1) * (i * x2 + y2)) = (i * x1 + e * y1) * (i * x1 + e * y1) := by grind -lia
  have key2 : d * ((x1 * y1) * (i * x2 - y2)) * ((x1 * y1) * (i * x2 - y2)) = (i * x1 - e * y1) * (i * x1 - e * y1) := by grind -lia
  have h0 : x1 * y1 ≠ 0 := by
    intro h0
    have : e = 0 := by grind -lia
    rw [this] at h
    exact absurd h (by simp)
  have sq : ∀ a b : K, d * a * a = b * b → a ≠ 0 → False := by
    intro a b hab ha
    have hw := ki_mul ha
    generalize ki a = w at hw
    refine hd (b * w) ?_
    grind -lia
  by_cases c1 : i * x2 + y2 = 0
  · by_cases c2 : i * x2 - y2 = 0
    · have hy : (2 : K) * y2 = 0 := by grind -lia
      have hy2 := (k_mul_zero hy).resolve_left (by decide)
      rw [hy2] at he
      have : e = 0 := by grind -lia
      rw [this] at h
      exact absurd h (by simp)
    · exact sq _ _ key2 (k_mul_ne h0 c2)
  · exact sq _ _ key1 (k_mul_ne h0 c1)
theorem ne_of_sq {e : K} (h : e * e ≠ 1) : 1 + e ≠ 0 ∧ 1 - e ≠ 0 := by
  constructor
  · intro h'; apply h; grind -lia
  · intro h'; apply h; grind -lia
theorem full {x1 y1 x2 y2 : K} (h1 : OnK x1 y1) (h2 : OnK x2 y2) : 1 + D * x1 * x2 * y1 * y2 ≠ 0 ∧ 1 - D * x1 * x2 * y1 * y2 ≠ 0 :=
  ne_of_sq (full' I_sq D_sq h1 h2 rfl)
theorem closed' {d x1 y1 x2 y2 e X Y : K} (h1 : y1 * y1 - x1 * x1 = 1 + d * x1 * x1 * y1 * y1) (h2 : y2 * y2 - x2 * x2 = 1 + d * x2 * x2 * y2 * y2) (he : e = d * x1 * x2 * y1 * y2)
    (hX : X * (1 + e) = x1 * y2 + x2 * y1) (hY : Y * (1 - e) = y1 * y2 + x1 * x2) :
    (Y * Y - X * X) * ((1 - e) * (1 + e) * ((1 - e) * (1 + e))) = (1 + d * X * X * Y * Y) * ((1 - e) * (1 + e) * ((1 - e) * (1 + e))) := by
  have e1 : (Y * Y - X * X) * ((1 - e) * (1 + e) * ((1 - e) * (1 + e))) = (Y * (1 - e)) * (Y * (1 - e)) * (1 + e) * (1 + e) - (X * (1 + e)) * (X * (1 + e)) * (1 - e) * (1 - e) := by grind -lia
  have e2 : (1 + d * X * X * Y * Y) * ((1 - e) * (1 + e) * ((1 - e) * (1 + e))) = (1 - e * e) * (1 - e * e) + d * (Y * (1 - e)) * (Y * (1 - e)) * (X * (1 + e)) * (X * (1 + e)) := by grind -lia
  rw [e1, e2, hX, hY]
  clear e1 e2 hX hY
  grind -lia
theorem comb3 {z a b c u w t : K} (h : z = a * u + b * w + c * t) (hu : u = 0) (hw : w = 0) (ht : t = 0) : z = 0 := by
  subst hu hw ht
  grind -lia
set_option maxHeartbeats 4000000 in
theorem assoc1 {d x1 y1 x2 y2 x3 y3 : K} (h1 : y1 * y1 - x1 * x1 = 1 + d * x1 * x1 * y1 * y1) (h2 : y2 * y2 - x2 * x2 = 1 + d * x2 * x2 * y2 * y2) (h3 : y3 * y3 - x3 * x3 = 1 + d * x3 * x3 * y3 * y3) :
    ((x1*y2 + x2*y1)*y3*(1-(d*x1*x2*y1*y2)) + x3*(y1*y2 + x1*x2)*(1+(d*x1*x2*y1*y2))) * ((1-(d*x2*x3*y2*y3))*(1+(d*x2*x3*y2*y3)) + d*(x2*y3 + x3*y2)*(y2*y3 + x2*x3)*x1*y1) - (x1*(y2*y3 + x2*x3)*(1+(d*x2*x3*y2*y3)) + (x2*y3 + x3*y2)*y1*(1-(d*x2*x3*y2*y3))) * ((1-(d*x1*x2*y1*y2))*(1+(d*x1*x2*y1*y2)) + d*(x1*y2 + x2*y1)*(y1*y2 + x1*x2)*x3*y3) = 0 := by
  have e1 : y1*y1 - x1*x1 - 1 - d*x1*x1*y1*y1 = 0 := by grind -lia
  have e2 : y2*y2 - x2*x2 - 1 - d*x2*x2*y2*y2 = 0 := by grind -lia
  have e3 : y3*y3 - x3*x3 - 1 - d*x3*x3*y3*y3 = 0 := by grind -lia
  have key : ((x1*y2 + x2*y1)*y3*(1-(d*x1*x2*y1*y2)) + x3*(y1*y2 + x1*x2)*(1+(d*x1*x2*y1*y2))) * ((1-(d*x2*x3*y2*y3))*(1+(d*x2*x3*y2*y3)) + d*(x2*y3 + x3*y2)*(y2*y3 + x2*x3)*x1*y1) - (x1*(y2*y3 + x2*x3)*(1+(d*x2*x3*y2*y3)) + (x2*y3 + x3*y2)*y1*(1-(d*x2*x3*y2*y3))) * ((1-(d*x1*x2*y1*y2))*(1+(d*x1*x2*y1*y2)) + d*(x1*y2 + x2*y1)*(y1*y2 + x1*x2)*x3*y3) = ((-1*d*y1*x2*y2*y2*y2*y2*x3*x3*y3) + (-1*d*y1*x2*x2*y2*y2*y2*x3) + (-1*d*y1*x2*x2*y2*y2*y2*x3*x3*x3) + (-1*d*y1*x2*x2*x2*y2*y2*y3) + d*y1*x2*x2*x2*y2*y2*y3*y3*y3 + d*y1*x2*x2*x2*x2*y2*x3*y3*y3 + d*x1*x2*y2*y2*y2*y2*x3*y3*y3 + (-1*d*x1*x2*x2*y2*y2*y2*y3) + d*x1*x2*x2*y2*y2*y2*y3*y3*y3 + (-1*d*x1*x2*x2*x2*y2*y2*x3) + (-1*d*x1*x2*x2*x2*y2*y2*x3*x3*x3) + (-1*d*x1*x2*x2*x2*x2*y2*x3*x3*y3) + d*d*y1*x2*x2*x2*y2*y2*y2*y2*x3*x3*y3 + d*d*y1*x2*x2*x2*x2*y2*y2*y2*x3*y3*y3 + (-1*d*d*x1*x2*x2*x2*y2*y2*y2*y2*x3*y3*y3) + (-1*d*d*x1*x2*x2*x2*x2*y2*y2*y2*x3*x3*y3))*(y1*y1 - x1*x1 - 1 - d*x1*x1*y1*y1) + (y1*y2*x3 + (-1*y1*y2*x3*y3*y3) + y1*y2*x3*x3*x3 + y1*x2*y3 + (-1*y1*x2*y3*y3*y3) + y1*x2*x3*x3*y3 + (-1*y1*y1*y1*y2*x3) + y1*y1*y1*y2*x3*y3*y3 + (-1*y1*y1*y1*y2*x3*x3*x3) + (-1*y1*y1*y1*x2*y3) + y1*y1*y1*x2*y3*y3*y3 + (-1*y1*y1*y1*x2*x3*x3*y3) + x1*y2*y3 + (-1*x1*y2*y3*y3*y3) + x1*y2*x3*x3*y3 + x1*x2*x3 + (-1*x1*x2*x3*y3*y3) + x1*x2*x3*x3*x3 + (-1*x1*y1*y1*y2*y3) + x1*y1*y1*y2*y3*y3*y3 + (-1*x1*y1*y1*y2*x3*x3*y3) + (-1*x1*y1*y1*x2*x3) + x1*y1*y1*x2*x3*y3*y3 + (-1*x1*y1*y1*x2*x3*x3*x3) + x1*x1*y1*y2*x3 + (-1*x1*x1*y1*y2*x3*y3*y3) + x1*x1*y1*y2*x3*x3*x3 + x1*x1*y1*x2*y3 + (-1*x1*x1*y1*x2*y3*y3*y3) + x1*x1*y1*x2*x3*x3*y3 + x1*x1*x1*y2*y3 + (-1*x1*x1*x1*y2*y3*y3*y3) + x1*x1*x1*y2*x3*x3*y3 + x1*x1*x1*x2*x3 + (-1*x1*x1*x1*x2*x3*y3*y3) + x1*x1*x1*x2*x3*x3*x3 + d*y1*y2*x3*x3*x3*y3*y3 + d*y1*x2*x3*x3*y3*y3*y3 + (-1*d*y1*x2*y2*y2*x3*x3*y3) + (-1*d*y1*x2*x2*y2*x3*y3*y3) + (-1*d*y1*y1*y1*y2*x3*x3*x3*y3*y3) + (-1*d*y1*y1*y1*x2*x3*x3*y3*y3*y3) + d*y1*y1*y1*x2*y2*y2*x3*x3*y3 + d*y1*y1*y1*x2*x2*y2*x3*y3*y3 + d*x1*y2*x3*x3*y3*y3*y3 + d*x1*x2*x3*x3*x3*y3*y3 + d*x1*x2*y2*y2*x3*y3*y3 + d*x1*x2*x2*y2*x3*x3*y3 + (-1*d*x1*y1*y1*y2*x3*x3*y3*y3*y3) + (-1*d*x1*y1*y1*x2*x3*x3*x3*y3*y3) + (-1*d*x1*y1*y1*x2*y2*y2*x3*y3*y3) + (-1*d*x1*y1*y1*x2*x2*y2*x3*x3*y3) + d*x1*x1*y1*y2*x3*x3*x3*y3*y3 + d*x1*x1*y1*x2*x3*x3*y3*y3*y3 + (-1*d*x1*x1*y1*x2*y2*y2*x3*x3*y3) + (-1*d*x1*x1*y1*x2*x2*y2*x3*y3*y3) + d*x1*x1*x1*y2*x3*x3*y3*y3*y3 + d*x1*x1*x1*x2*x3*x3*x3*y3*y3 + d*x1*x1*x1*x2*y2*y2*x3*y3*y3 + d*x1*x1*x1*x2*x2*y2*x3*x3*y3 + d*d*x1*y1*y1*x2*y2*y2*x3*x3*x3*y3*y3 + (-1*d*d*x1*y1*y1*x2*x2*y2*x3*x3*y3*y3*y3) + (-1*d*d*x1*x1*y1*x2*y2*y2*x3*x3*y3*y3*y3) + d*d*x1*x1*y1*x2*x2*y2*x3*x3*x3*y3*y3)*(y2*y2 - x2*x2 - 1 - d*x2*x2*y2*y2) + ((-1*y1*y2*x3) + y1*y2*y2*y2*x3 + (-1*y1*x2*y3) + y1*x2*y2*y2*y3 + (-1*y1*x2*x2*y2*x3) + (-1*y1*x2*x2*x2*y3) + y1*y1*y1*y2*x3 + (-1*y1*y1*y1*y2*y2*y2*x3) + y1*y1*y1*x2*y3 + (-1*y1*y1*y1*x2*y2*y2*y3) + y1*y1*y1*x2*x2*y2*x3 + y1*y1*y1*x2*x2*x2*y3 + (-1*x1*y2*y3) + x1*y2*y2*y2*y3 + (-1*x1*x2*x3) + x1*x2*y2*y2*x3 + (-1*x1*x2*x2*y2*y3) + (-1*x1*x2*x2*x2*x3) + x1*y1*y1*y2*y3 + (-1*x1*y1*y1*y2*y2*y2*y3) + x1*y1*y1*x2*x3 + (-1*x1*y1*y1*x2*y2*y2*x3) + x1*y1*y1*x2*x2*y2*y3 + x1*y1*y1*x2*x2*x2*x3 + (-1*x1*x1*y1*y2*x3) + x1*x1*y1*y2*y2*y2*x3 + (-1*x1*x1*y1*x2*y3) + x1*x1*y1*x2*y2*y2*y3 + (-1*x1*x1*y1*x2*x2*y2*x3) + (-1*x1*x1*y1*x2*x2*x2*y3) + (-1*x1*x1*x1*y2*y3) + x1*x1*x1*y2*y2*y2*y3 + (-1*x1*x1*x1*x2*x3) + x1*x1*x1*x2*y2*y2*x3 + (-1*x1*x1*x1*x2*x2*y2*y3) + (-1*x1*x1*x1*x2*x2*x2*x3) + (-1*d*x1*y1*y1*x2*y2*y2*x3) + d*x1*y1*y1*x2*x2*y2*y3 + d*x1*x1*y1*x2*y2*y2*y3 + (-1*d*x1*x1*y1*x2*x2*y2*x3))*(y3*y3 - x3*x3 - 1 - d*x3*x3*y3*y3) := by
    clear h1 h2 h3 e1 e2 e3
    grind -lia
  exact comb3 key e1 e2 e3
set_option maxHeartbeats 4000000 in
theorem assoc2 {d x1 y1 x2 y2 x3 y3 : K} (h1 : y1 * y1 - x1 * x1 = 1 + d * x1 * x1 * y1 * y1) (h2 : y2 * y2 - x2 * x2 = 1 + d * x2 * x2 * y2 * y2) (h3 : y3 * y3 - x3 * x3 = 1 + d * x3 * x3 * y3 * y3) :
    ((y1*y2 + x1*x2)*y3*(1+(d*x1*x2*y1*y2)) + (x1*y2 + x2*y1)*x3*(1-(d*x1*x2*y1*y2))) * ((1-(d*x2*x3*y2*y3))*(1+(d*x2*x3*y2*y3)) - d*(x2*y3 + x3*y2)*(y2*y3 + x2*x3)*x1*y1) - (y1*(y2*y3 + x2*x3)*(1+(d*x2*x3*y2*y3)) + x1*(x2*y3 + x3*y2)*(1-(d*x2*x3*y2*y3))) * ((1-(d*x1*x2*y1*y2))*(1+(d*x1*x2*y1*y2)) - d*(x1*y2 + x2*y1)*(y1*y2 + x1*x2)*x3*y3) = 0 := by
  have e1 : y1*y1 - x1*x1 - 1 - d*x1*x1*y1*y1 = 0 := by grind -lia
  have e2 : y2*y2 - x2*x2 - 1 - d*x2*x2*y2*y2 = 0 := by grind -lia
  have e3 : y3*y3 - x3*x3 - 1 - d*x3*x3*y3*y3 = 0 := by grind -lia
  have key : ((y1*y2 + x1*x2)*y3*(1+(d*x1*x2*y1*y2)) + (x1*y2 + x2*y1)*x3*(1-(d*x1*x2*y1*y2))) * ((1-(d*x2*x3*y2*y3))*(1+(d*x2*x3*y2*y3)) - d*(x2*y3 + x3*y2)*(y2*y3 + x2*x3)*x1*y1) - (y1*(y2*y3 + x2*x3)*(1+(d*x2*x3*y2*y3)) + x1*(x2*y3 + x3*y2)*(1-(d*x2*x3*y2*y3))) * ((1-(d*x1*x2*y1*y2))*(1+(d*x1*x2*y1*y2)) - d*(x1*y2 + x2*y1)*(y1*y2 + x1*x2)*x3*y3) = (d*y1*x2*y2*y2*y2*y2*x3*y3*y3 + (-1*d*y1*x2*x2*y2*y2*y2*y3) + d*y1*x2*x2*y2*y2*y2*y3*y3*y3 + (-1*d*y1*x2*x2*x2*y2*y2*x3) + (-1*d*y1*x2*x2*x2*y2*y2*x3*x3*x3) + (-1*d*y1*x2*x2*x2*x2*y2*x3*x3*y3) + (-1*d*x1*x2*y2*y2*y2*y2*x3*x3*y3) + (-1*d*x1*x2*x2*y2*y2*y2*x3) + (-1*d*x1*x2*x2*y2*y2*y2*x3*x3*x3) + (-1*d*x1*x2*x2*x2*y2*y2*y3) + d*x1*x2*x2*x2*y2*y2*y3*y3*y3 + d*x1*x2*x2*x2*x2*y2*x3*y3*y3 + (-1*d*d*y1*x2*x2*x2*y2*y2*y2*y2*x3*y3*y3) + (-1*d*d*y1*x2*x2*x2*x2*y2*y2*y2*x3*x3*y3) + d*d*x1*x2*x2*x2*y2*y2*y2*y2*x3*x3*y3 + d*d*x1*x2*x2*x2*x2*y2*y2*y2*x3*y3*y3)*(y1*y1 - x1*x1 - 1 - d*x1*x1*y1*y1) + (y1*y2*y3 + (-1*y1*y2*y3*y3*y3) + y1*y2*x3*x3*y3 + y1*x2*x3 + (-1*y1*x2*x3*y3*y3) + y1*x2*x3*x3*x3 + (-1*y1*y1*y1*y2*y3) + y1*y1*y1*y2*y3*y3*y3 + (-1*y1*y1*y1*y2*x3*x3*y3) + (-1*y1*y1*y1*x2*x3) + y1*y1*y1*x2*x3*y3*y3 + (-1*y1*y1*y1*x2*x3*x3*x3) + x1*y2*x3 + (-1*x1*y2*x3*y3*y3) + x1*y2*x3*x3*x3 + x1*x2*y3 + (-1*x1*x2*y3*y3*y3) + x1*x2*x3*x3*y3 + (-1*x1*y1*y1*y2*x3) + x1*y1*y1*y2*x3*y3*y3 + (-1*x1*y1*y1*y2*x3*x3*x3) + (-1*x1*y1*y1*x2*y3) + x1*y1*y1*x2*y3*y3*y3 + (-1*x1*y1*y1*x2*x3*x3*y3) + x1*x1*y1*y2*y3 + (-1*x1*x1*y1*y2*y3*y3*y3) + x1*x1*y1*y2*x3*x3*y3 + x1*x1*y1*x2*x3 + (-1*x1*x1*y1*x2*x3*y3*y3) + x1*x1*y1*x2*x3*x3*x3 + x1*x1*x1*y2*x3 + (-1*x1*x1*x1*y2*x3*y3*y3) + x1*x1*x1*y2*x3*x3*x3 + x1*x1*x1*x2*y3 + (-1*x1*x1*x1*x2*y3*y3*y3) + x1*x1*x1*x2*x3*x3*y3 + d*y1*y2*x3*x3*y3*y3*y3 + d*y1*x2*x3*x3*x3*y3*y3 + d*y1*x2*y2*y2*x3*y3*y3 + d*y1*x2*x2*y2*x3*x3*y3 + (-1*d*y1*y1*y1*y2*x3*x3*y3*y3*y3) + (-1*d*y1*y1*y1*x2*x3*x3*x3*y3*y3) + (-1*d*y1*y1*y1*x2*y2*y2*x3*y3*y3) + (-1*d*y1*y1*y1*x2*x2*y2*x3*x3*y3) + d*x1*y2*x3*x3*x3*y3*y3 + d*x1*x2*x3*x3*y3*y3*y3 + (-1*d*x1*x2*y2*y2*x3*x3*y3) + (-1*d*x1*x2*x2*y2*x3*y3*y3) + (-1*d*x1*y1*y1*y2*x3*x3*x3*y3*y3) + (-1*d*x1*y1*y1*x2*x3*x3*y3*y3*y3) + d*x1*y1*y1*x2*y2*y2*x3*x3*y3 + d*x1*y1*y1*x2*x2*y2*x3*y3*y3 + d*x1*x1*y1*y2*x3*x3*y3*y3*y3 + d*x1*x1*y1*x2*x3*x3*x3*y3*y3 + d*x1*x1*y1*x2*y2*y2*x3*y3*y3 + d*x1*x1*y1*x2*x2*y2*x3*x3*y3 + d*x1*x1*x1*y2*x3*x3*x3*y3*y3 + d*x1*x1*x1*x2*x3*x3*y3*y3*y3 + (-1*d*x1*x1*x1*x2*y2*y2*x3*x3*y3) + (-1*d*x1*x1*x1*x2*x2*y2*x3*y3*y3) + d*d*x1*y1*y1*x2*y2*y2*x3*x3*y3*y3*y3 + (-1*d*d*x1*y1*y1*x2*x2*y2*x3*x3*x3*y3*y3) + (-1*d*d*x1*x1*y1*x2*y2*y2*x3*x3*x3*y3*y3) + d*d*x1*x1*y1*x2*x2*y2*x3*x3*y3*y3*y3)*(y2*y2 - x2*x2 - 1 - d*x2*x2*y2*y2) + ((-1*y1*y2*y3) + y1*y2*y2*y2*y3 + (-1*y1*x2*x3) + y1*x2*y2*y2*x3 + (-1*y1*x2*x2*y2*y3) + (-1*y1*x2*x2*x2*x3) + y1*y1*y1*y2*y3 + (-1*y1*y1*y1*y2*y2*y2*y3) + y1*y1*y1*x2*x3 + (-1*y1*y1*y1*x2*y2*y2*x3) + y1*y1*y1*x2*x2*y2*y3 + y1*y1*y1*x2*x2*x2*x3 + (-1*x1*y2*x3) + x1*y2*y2*y2*x3 + (-1*x1*x2*y3) + x1*x2*y2*y2*y3 + (-1*x1*x2*x2*y2*x3) + (-1*x1*x2*x2*x2*y3) + x1*y1*y1*y2*x3 + (-1*x1*y1*y1*y2*y2*y2*x3) + x1*y1*y1*x2*y3 + (-1*x1*y1*y1*x2*y2*y2*y3) + x1*y1*y1*x2*x2*y2*x3 + x1*y1*y1*x2*x2*x2*y3 + (-1*x1*x1*y1*y2*y3) + x1*x1*y1*y2*y2*y2*y3 + (-1*x1*x1*y1*x2*x3) + x1*x1*y1*x2*y2*y2*x3 + (-1*x1*x1*y1*x2*x2*y2*y3) + (-1*x1*x1*y1*x2*x2*x2*x3) + (-1*x1*x1*x1*y2*x3) + x1*x1*x1*y2*y2*y2*x3 + (-1*x1*x1*x1*x2*y3) + x1*x1*x1*x2*y2*y2*y3 + (-1*x1*x1*x1*x2*x2*y2*x3) + (-1*x1*x1*x1*x2*x2*x2*y3) + (-1*d*x1*y1*y1*x2*y2*y2*y3) + d*x1*y1*y1*x2*x2*y2*x3 + d*x1*x1*y1*x2*y2*y2*x3 + (-1*d*x1*x1*y1*x2*x2*y2*y3))*(y3*y3 - x3*x3 - 1 - d*x3*x3*y3*y3) := by
    clear h1 h2 h3 e1 e2 e3
    grind -lia
  exact comb3 key e1 e2 e3

/-- A point of the curve. -/
structure Pn where
  x : K
  y : K
  on : OnK x y
theorem Pn.ext' {A B : Pn} (hx : A.x = B.x) (hy : A.y = B.y) : A = B := by
  cases A; cases B; cases hx; cases hy; rfl
theorem sum_on {A B : Pn} {X Y : K} (hX : X * (1 + D * A.x * B.x * A.y * B.y) = A.x * B.y + B.x * A.y) (hY : Y * (1 - D * A.x * B.x * A.y * B.y) = A.y * B.y + A.x * B.x) : OnK X Y := by
  obtain ⟨n1, n2⟩ := full A.on B.on
  have h := closed' (e := D * A.x * B.x * A.y * B.y) A.on B.on rfl hX hY
  exact k_cancel (k_mul_ne (k_mul_ne n2 n1) (k_mul_ne n2 n1)) h
theorem div_mul {a b : K} (h : b ≠ 0) : a * ki b * b = a := by
  have := ki_mul h
  generalize ki b = w at *
  grind -lia
noncomputable def Pn.add (A B : Pn) : Pn where
  x := (A.x * B.y + B.x * A.y) * ki (1 + D * A.x * B.x * A.y * B.y)
  y := (A.y * B.y + A.x * B.x) * ki (1 - D * A.x * B.x * A.y * B.y)
  on := sum_on (A := A) (B := B) (div_mul (full A.on B.on).1) (div_mul (full A.on B.on).2)
theorem add_x (A B : Pn) : (A.add B).x * (1 + D * A.x * B.x * A.y * B.y) = A.x * B.y + B.x * A.y := div_mul (full A.on B.on).1
theorem add_y (A B : Pn) : (A.add B).y * (1 - D * A.x * B.x * A.y * B.y) = A.y * B.y + A.x * B.x := div_mul (full A.on B.on).2
theorem add_of {A B : Pn} {X Y : K} (hX : X * (1 + D * A.x * B.x * A.y * B.y) = A.x * B.y + B.x * A.y) (hY : Y * (1 - D * A.x * B.x * A.y * B.y) = A.y * B.y + A.x * B.x) : X = (A.add B).x ∧ Y = (A.add B).y :=
  ⟨k_cancel (full A.on B.on).1 (hX.trans (add_x A B).symm), k_cancel (full A.on B.on).2 (hY.trans (add_y A B).symm)⟩
noncomputable def Pn.zero : Pn := ⟨0, 1, by unfold OnK; grind -lia⟩
noncomputable def Pn.neg (A : Pn) : Pn := ⟨-A.x, A.y, by have := A.on; unfold OnK at *; grind -lia⟩
theorem add_comm' (A B : Pn) : A.add B = B.add A := by
  obtain ⟨h1, h2⟩ := add_of (A := B) (B := A) (X := (A.add B).x) (Y := (A.add B).y)
    (by have := add_x A B; grind -lia) (by have := add_y A B; grind -lia)
  exact Pn.ext' h1 h2
theorem add_zero' (A : Pn) : A.add .zero = A := by
  obtain ⟨h1, h2⟩ := add_of (A := A) (B := .zero) (X := A.x) (Y := A.y) (by show A.x * (1 + D * A.x * 0 * A.y * 1) = A.x * 1 + 0 * A.y; grind -lia) (by show A.y * (1 - D * A.x * 0 * A.y * 1) = A.y * 1 + A.x * 0; grind -lia)
  exact (Pn.ext' h1 h2).symm
theorem add_neg' (A : Pn) : A.add A.neg = .zero := by
  obtain ⟨h1, h2⟩ := add_of (A := A) (B := A.neg) (X := 0) (Y := 1) (by show (0 : K) * _ = A.x * A.y + -A.x * A.y; grind -lia)
    (by show (1 : K) * (1 - D * A.x * -A.x * A.y * A.y) = A.y * A.y + A.x * -A.x; have := A.on; unfold OnK at this; grind -lia)
  exact (Pn.ext' h1 h2).symm
theorem twice_x {d x1 y1 x2 y2 x3 y3 X Y U e : K} (_he : e = d * x1 * x2 * y1 * y2) (hX : X * (1 + e) = x1 * y2 + x2 * y1) (hY : Y * (1 - e) = y1 * y2 + x1 * x2)
    (hU : U * (1 + d * X * x3 * Y * y3) = X * y3 + x3 * Y) :
    U * ((1 - e) * (1 + e) + d * (x1 * y2 + x2 * y1) * (y1 * y2 + x1 * x2) * x3 * y3) = (x1 * y2 + x2 * y1) * y3 * (1 - e) + x3 * (y1 * y2 + x1 * x2) * (1 + e) := by
  rw [← hX, ← hY]
  have h : U * ((1 - e) * (1 + e) + d * (X * (1 + e)) * (Y * (1 - e)) * x3 * y3) = U * (1 + d * X * x3 * Y * y3) * ((1 - e) * (1 + e)) := by grind -lia
  rw [h, hU]
  grind -lia
theorem twice_y {d x1 y1 x2 y2 x3 y3 X Y U e : K} (_he : e = d * x1 * x2 * y1 * y2) (hX : X * (1 + e) = x1 * y2 + x2 * y1) (hY : Y * (1 - e) = y1 * y2 + x1 * x2)
    (hU : U * (1 - d * X * x3 * Y * y3) = Y * y3 + X * x3) :
    U * ((1 - e) * (1 + e) - d * (x1 * y2 + x2 * y1) * (y1 * y2 + x1 * x2) * x3 * y3) = (y1 * y2 + x1 * x2) * y3 * (1 + e) + (x1 * y2 + x2 * y1) * x3 * (1 - e) := by
  rw [← hX, ← hY]
  have h : U * ((1 - e) * (1 + e) - d * (X * (1 + e)) * (Y * (1 - e)) * x3 * y3) = U * (1 - d * X * x3 * Y * y3) * ((1 - e) * (1 + e)) := by grind -lia
  rw [h, hU]
  grind -lia
theorem denom {A B : Pn} (C : Pn) :
    (1 - D * A.x * B.x * A.y * B.y) * (1 + D * A.x * B.x * A.y * B.y) + D * (A.x * B.y + B.x * A.y) * (A.y * B.y + A.x * B.x) * C.x * C.y ≠ 0 ∧
    (1 - D * A.x * B.x * A.y * B.y) * (1 + D * A.x * B.x * A.y * B.y) - D * (A.x * B.y + B.x * A.y) * (A.y * B.y + A.x * B.x) * C.x * C.y ≠ 0 := by
  obtain ⟨n1, n2⟩ := full A.on B.on
  obtain ⟨m1, m2⟩ := full (A.add B).on C.on
  rw [← add_x, ← add_y]
  generalize D * A.x * B.x * A.y * B.y = e at *
  generalize (A.add B).x = X at *
  generalize (A.add B).y = Y at *
  refine ⟨fun h => ?_, fun h => ?_⟩
  · refine k_mul_ne (k_mul_ne n1 n2) m1 ?_
    generalize D = d at *
    clear n1 n2 m1 m2
    grind -lia
  · refine k_mul_ne (k_mul_ne n1 n2) m2 ?_
    generalize D = d at *
    clear n1 n2 m1 m2
    grind -lia
theorem cross_eq {L R M N U W : K} (hL : L * M = U) (hR : R * N = W) (h : U * N - W * M = 0) (hm : M ≠ 0) (hn : N ≠ 0) : L = R := by
  refine k_cancel (k_mul_ne hm hn) ?_
  subst hL hR
  grind -lia
theorem add_assoc' (A B C : Pn) : (A.add B).add C = A.add (B.add C) := by
  obtain ⟨m1, m2⟩ := denom (A := A) (B := B) C
  obtain ⟨n1, n2⟩ := denom (A := B) (B := C) A
  have x1 := twice_x rfl (add_x A B) (add_y A B) (add_x (A.add B) C)
  have y1 := twice_y rfl (add_x A B) (add_y A B) (add_y (A.add B) C)
  have x2 := twice_x rfl (add_x B C) (add_y B C) (add_x (B.add C) A)
  have y2 := twice_y rfl (add_x B C) (add_y B C) (add_y (B.add C) A)
  rw [add_comm' A (B.add C)]
  have a1 := assoc1 A.on B.on C.on
  have a2 := assoc2 A.on B.on C.on
  refine Pn.ext' (cross_eq x1 x2 ?_ m1 n1) (cross_eq y1 y2 ?_ m2 n2)
  · clear x1 y1 x2 y2 a2 m1 m2 n1 n2
    grind -lia
  · clear x1 y1 x2 y2 a1 m1 m2 n1 n2
    grind -lia
end Go.Proofs.Ytbnclikjbnfodaa

/-
  FieldSquares answers true. Conditions: none.
-/
namespace Go.Proofs.Ytbnclikjbnfodaa
open Go.Ev Go.Num

theorem ev_sq (Z : Int) : ev Z * ev Z = Z * Z := by unfold ev; split <;> grind
theorem ev_even (Z : Int) : ev Z % p % 2 = 0 := by
  unfold ev
  have h0 := Int.emod_nonneg Z (show p ≠ 0 by decide)
  have h1 := Int.emod_lt_of_pos Z (show 0 < p by decide)
  split
  · rename_i h
    have e : -Z % p = p - Z % p := by
      rw [← nm, ← Int.add_emod_right, show -(Z % p) + p = p - Z % p by omega]
      exact Int.emod_eq_of_lt (by omega) (by omega)
    rw [e]
    have : p % 2 = 1 := by decide
    omega
  · omega

theorem sq_ok {U V : Int} (hV : V % p ≠ 0) (h : (sqZ U V).2 = true) : Eqp (V * ((sqZ U V).1 * (sqZ U V).1)) U ∧ (sqZ U V).1 % p % 2 = 0 := by
  have hq := quot_mul (U := U) hV
  unfold sqZ at h ⊢
  rw [if_neg hV] at h ⊢
  by_cases c1 : quot U V * quot U V ^ Q4 % p = quot U V % p
  · rw [if_pos c1]
    refine ⟨?_, ev_even _⟩
    dsimp only
    rw [ev_sq, root_sq, Int.mul_comm]
    exact (Eqp.mul (show Eqp _ _ from c1) (.refl V)).trans hq
  · rw [if_neg c1] at h ⊢
    by_cases c2 : quot U V * quot U V ^ Q4 % p = -quot U V % p
    · rw [if_pos c2]
      refine ⟨?_, ev_even _⟩
      dsimp only
      rw [ev_sq, show quot U V ^ (E8 + 1) * I4 * (quot U V ^ (E8 + 1) * I4) = quot U V ^ (E8 + 1) * quot U V ^ (E8 + 1) * (I4 * I4) by grind, root_sq, Int.mul_comm]
      have h2 : Eqp (quot U V * quot U V ^ Q4 * (I4 * I4)) (quot U V) := ((Eqp.mul (show Eqp _ _ from c2) I4_sq)).trans (.of (by grind))
      exact (h2.mul (.refl V)).trans hq
    · rw [if_neg c2] at h
      exact absurd h (by simp)

theorem sq_no {U V : Int} (hV : V % p ≠ 0) (h : (sqZ U V).2 = false) : (sqZ U V).1 = 0 ∧ Eqp ((U * V) ^ (2 * Q4)) (-1) := by
  have hq := quot_mul (U := U) hV
  unfold sqZ at h ⊢
  rw [if_neg hV] at h ⊢
  by_cases c1 : quot U V * quot U V ^ Q4 % p = quot U V % p
  · rw [if_pos c1] at h; exact absurd h (by simp)
  rw [if_neg c1] at h ⊢
  by_cases c2 : quot U V * quot U V ^ Q4 % p = -quot U V % p
  · rw [if_pos c2] at h; exact absurd h (by simp)
  rw [if_neg c2]
  refine ⟨rfl, ?_⟩
  generalize quot U V = X at *
  have hX : X % p ≠ 0 := by
    intro hX
    apply c1
    have : Eqp X 0 := hX
    exact ((this.mul (.refl (X ^ Q4))).trans (.of (Int.zero_mul _))).trans this.symm
  have h1 : Eqp ((U * V) ^ (2 * Q4)) (X ^ (2 * Q4)) := by
    have e : (X * V * V) ^ (2 * Q4) = X ^ (2 * Q4) * V ^ (pN - 1) := by
      rw [show X * V * V = X * V ^ 2 by grind, Int.mul_pow, ← Int.pow_mul, ← Q4_4, show 2 * (2 * Q4) = 4 * Q4 by omega]
    refine (((hq.symm.mul (.refl V)).pow (2 * Q4)).trans (.of e)).trans ?_
    exact ((Eqp.refl _).mul (fermE hV)).trans (.of (Int.mul_one _))
  refine h1.trans ?_
  have h4 : (X ^ (2 * Q4)) * (X ^ (2 * Q4)) % p = 1 * 1 % p := by
    rw [← Int.pow_add, show 2 * Q4 + 2 * Q4 = pN - 1 by rw [← Q4_4]; omega]
    exact fermE hX
  rcases sq_eq h4 with h5 | h5
  · exfalso
    have h6 : X ^ Q4 * X ^ Q4 % p = 1 * 1 % p := by
      rw [← Int.pow_add, show Q4 + Q4 = 2 * Q4 by omega]; exact h5
    rcases sq_eq h6 with h7 | h7
    · exact c1 ((Eqp.mul (.refl X) (show Eqp _ _ from h7)).trans (.of (Int.mul_one _)))
    · exact c2 ((Eqp.mul (.refl X) (show Eqp _ _ from h7)).trans (.of (by omega)))
  · exact h5

theorem sq_square {U V A : Int} (hV : V % p ≠ 0) (h : Eqp U (V * (A * A))) : (sqZ U V).2 = true := by
  have hq := quot_mul (U := U) hV
  have hx : Eqp (quot U V) (A * A) := (eqp_iff_mul hV).1 ((hq.trans h).trans (.of (Int.mul_comm _ _)))
  unfold sqZ
  rw [if_neg hV]
  by_cases c1 : quot U V * quot U V ^ Q4 % p = quot U V % p
  · rw [if_pos c1]
  rw [if_neg c1]
  by_cases c2 : quot U V * quot U V ^ Q4 % p = -quot U V % p
  · rw [if_pos c2]
  exfalso
  generalize quot U V = X at *
  by_cases hA : A % p = 0
  · have hX : Eqp X 0 := hx.trans (((show Eqp A 0 from hA).mul (.refl A)).trans (.of (Int.zero_mul _)))
    exact c1 (((hX.mul (.refl (X ^ Q4))).trans (.of (Int.zero_mul _))).trans hX.symm)
  · have h4 : (A ^ (2 * Q4)) * (A ^ (2 * Q4)) % p = 1 * 1 % p := by
      rw [← Int.pow_add, show 2 * Q4 + 2 * Q4 = pN - 1 by rw [← Q4_4]; omega]
      exact fermE hA
    have h5 : Eqp (X ^ Q4) (A ^ (2 * Q4)) := (hx.pow Q4).trans (.of (by rw [Int.pow_mul, show A ^ 2 = A * A by grind]))
    rcases sq_eq h4 with h6 | h6
    · exact c1 ((Eqp.mul (.refl X) (h5.trans (show Eqp _ _ from h6))).trans (.of (Int.mul_one _)))
    · exact c2 ((Eqp.mul (.refl X) (h5.trans (show Eqp _ _ from h6))).trans (.of (by omega)))

theorem powH : B32 (lawPow 246 63) := by unfold B32; decide
theorem powH_v : vb (lawPow 246 63) = ((2 * Q4 : Nat) : Int) := by decide

theorem even_i {x : Nat → Int} {Z : Int} (h : Is x Z) (e : Z % p % 2 = 0) : isOddF x = false := by rw [isOdd_v h.u, h.v, e]; rfl

theorem squares_true {u y : Nat → Int} (hu : U5 u) (hy : U5 y) : lawSquares u y = true := by
  obtain ⟨a1, a2⟩ := sqrt_v hu hy
  have su := sq_i hu
  have m := mul_i hy su.u
  obtain ⟨b1, b2⟩ := sqrt_v m.u hy
  have hs := select_i (y := y) hu
  unfold lawSquares
  rw [isZeroFO_eq, sqrtFO_eq, countsBO_eq, counts_true, isOddFO_eq, mulFO_eq, squareFO_eq, selectFO_eq, powFO_eq, negFO_eq, smallFO_eq, isZero_i hy rfl, isZero_i hu rfl, isZero_i a1.u a1.v, a2, b2]
  by_cases h0 : v5 y % p = 0
  · rw [decide_eq_true h0, cond_true]
    unfold sqZ
    rw [if_pos h0]
    simp
  · rw [decide_eq_false h0, cond_false]
    have hm : Eqp (v5 (mulF y (squareF u))) (v5 y * (v5 u * v5 u)) := by
      have : v5 (mulF y (squareF u)) % p = _ := m.v
      rw [su.1, mr] at this
      exact this
    have ok := sq_square h0 hm
    obtain ⟨t1, t2⟩ := sq_ok h0 ok
    rw [ok]
    have hz : Eqp ((sqZ (v5 (mulF y (squareF u))) (v5 y)).1 * (sqZ (v5 (mulF y (squareF u))) (v5 y)).1) (v5 u * v5 u) := by
      refine (eqp_iff_mul h0).1 ?_
      rw [Int.mul_comm, Int.mul_comm (v5 u * v5 u)]
      exact t1.trans hm
    rw [even_i b1 t2, b1.eqn hs, b1.eqn (neg_i hu)]
    have tail : (cond true (cond (decide ((sqZ (v5 (mulF y (squareF u))) (v5 y)).1 % p = v5 u % p)) (cond (!false) true false) (cond (decide ((sqZ (v5 (mulF y (squareF u))) (v5 y)).1 % p = -v5 u % p)) (cond (!false) true false) false)) false) = true := by
      rcases sq_eq hz with h | h
      · rw [decide_eq_true h]; rfl
      · rw [decide_eq_true h]; simp
    rw [tail]
    cases hok : (sqZ (v5 u) (v5 y)).2 with
    | true =>
      obtain ⟨r1, r2⟩ := sq_ok h0 hok
      have rr := sqK a1
      have e1 : eqN 5 (mulF y (squareF (sqrtF u y).1)) (selectF true u y) = true := by
        rw [((mul_i hy rr.u).to (Y := v5 y * ((sqZ (v5 u) (v5 y)).1 * (sqZ (v5 u) (v5 y)).1)) (by rw [rr.1, mr])).eqn hs]
        exact decide_eq_true r1
      rw [even_i a1 r2, e1]
      rfl
    | false =>
      obtain ⟨r1, r2⟩ := sq_no h0 hok
      have mm := mul_i hu hy
      have e1 : eqN 5 (powF (mulF u y) (lawPow 246 63)) (negF (smallF 1)) = true := by
        rw [(powK mm powH powH_v).eqn (negK (small_i 1 (by omega) (by omega)))]
        exact decide_eq_true r2
      rw [e1, r1]
      rfl
end Go.Proofs.Ytbnclikjbnfodaa

namespace Go.Proofs.Ytbnclikjbnfodaa
open Go.Ev
/- fareboxlaw05.FieldBytes -/
def lawBytes (b : (Nat → Int)) (x : (Nat → Int)) (n : Int) : Bool := (cond (!(isE (fromBytesF b) (rFromBytes b))) false (cond (!((canonicalF b) == (rCanonical b))) false (cond (eqN 32 (bytesF x) (rBytes (rOf x))) (isE (smallF n) (rSmall n)) false)))
theorem lawBytes_t (b : (Nat → Int)) (x : (Nat → Int)) (n : Int) : awp Try.prog o38 noG 300 (body Try.f5) (ends Try.prog Try.f5 fun v _ => okV (V.bool (lawBytes b x n)) v) ⟨[(V.ints .u8 32 b), (V.ints .u64 5 x), (V.int .u64 n)] ++ List.replicate 30 V.un, []⟩ = (mB (!(isE (fromBytesF b) (rFromBytes b))) ((V.bool false).den z0 = (V.bool (lawBytes b x n)).den z0) (mB (!((canonicalF b) == (rCanonical b))) ((V.bool false).den z0 = (V.bool (lawBytes b x n)).den z0) (mB (eqN 32 (bytesF x) (rBytes (rOf x))) ((V.bool (isE (smallF n) (rSmall n))).den z0 = (V.bool (lawBytes b x n)).den z0) ((V.bool false).den z0 = (V.bool (lawBytes b x n)).den z0)))) := by kernel_rfl
theorem lawBytes_a (b : (Nat → Int)) (x : (Nat → Int)) (n : Int) : awp Try.prog o38 noG 300 (body Try.f5) (ends Try.prog Try.f5 fun v _ => okV (V.bool (lawBytes b x n)) v) ⟨[(V.ints .u8 32 b), (V.ints .u64 5 x), (V.int .u64 n)] ++ List.replicate 30 V.un, []⟩ := by
  rw [lawBytes_t]
  refine mBt (fun h1 => ?_) (fun h1 => ?_)
  · simp only [lawBytes, h1, cond_true]
  · refine mBt (fun h2 => ?_) (fun h2 => ?_)
    · simp only [lawBytes, h1, h2, cond_true, cond_false]
    · refine mBt (fun h3 => ?_) (fun h3 => ?_)
      · simp only [lawBytes, h1, h2, h3, cond_true, cond_false]
      · simp only [lawBytes, h1, h2, h3, cond_false]
def g5 : List V → Option (Bool × V) := fun | [.ints .u8 32 b, .ints .u64 5 x, .int .u64 n] => some (true, (V.bool (lawBytes b x n))) | _ => none
theorem lawBytes_p (b : (Nat → Int)) (x : (Nat → Int)) (n : Int) : (∀ μ μ', V.den μ' (V.bool (lawBytes b x n)) = V.den μ (V.bool (lawBytes b x n))) ∧ ∀ μ w, PureAt Try.prog 5 (([(V.ints .u8 32 b), (V.ints .u64 5 x), (V.int .u64 n)] : List V).map (V.den μ)).toArray (V.den μ (V.bool (lawBytes b x n))) w :=
  pure_ok (F := o38) (N := 300) (fn := Try.f5) (args := [(V.ints .u8 32 b), (V.ints .u64 5 x), (V.int .u64 n)]) (r := (V.bool (lawBytes b x n))) (n := 30) hM o38_ok (noG_ok _) Try.func5 (by kernel_rfl) (by kernel_rfl) (by kernel_rfl) (by kernel_rfl) (lawBytes_a b x n) (by kernel_rfl)
theorem g5_ok (vs : List V) (v : V) (h : g5 vs = some (true, v)) : (∀ μ μ', v.den μ' = v.den μ) ∧ ∀ μ w, PureAt Try.prog 5 (vs.map (V.den μ)).toArray (v.den μ) w := by
  unfold g5 at h
  split at h
  · simp only [Option.some.injEq, Prod.mk.injEq, true_and] at h
    subst h
    exact lawBytes_p _ _ _
  · simp at h
def o5 : Orc := ext 5 g5 o38
theorem o5_ok : OrcOK Try.prog o5 := ext_ok o38_ok g5_ok
end Go.Proofs.Ytbnclikjbnfodaa

namespace Go.Proofs.Ytbnclikjbnfodaa
open Go.Ev
/- fareboxlaw05.FieldSums -/
def lawSums (x : (Nat → Int)) (y : (Nat → Int)) : Bool := (cond (isE (addF x y) (rAdd (rOf x) (rOf y))) (cond (isE (subF x y) (rSub (rOf x) (rOf y))) (isE (negF x) (rNeg (rOf x))) false) false)
theorem lawSums_t (x : (Nat → Int)) (y : (Nat → Int)) : awp Try.prog o27 noG 300 (body Try.f4) (ends Try.prog Try.f4 fun v _ => okV (V.bool (lawSums x y)) v) ⟨[(V.ints .u64 5 x), (V.ints .u64 5 y)] ++ List.replicate 32 V.un, []⟩ = (mB (isE (addF x y) (rAdd (rOf x) (rOf y))) (mB (isE (subF x y) (rSub (rOf x) (rOf y))) ((V.bool (isE (negF x) (rNeg (rOf x)))).den z0 = (V.bool (lawSums x y)).den z0) ((V.bool false).den z0 = (V.bool (lawSums x y)).den z0)) ((V.bool false).den z0 = (V.bool (lawSums x y)).den z0)) := by kernel_rfl
theorem lawSums_a (x : (Nat → Int)) (y : (Nat → Int)) : awp Try.prog o27 noG 300 (body Try.f4) (ends Try.prog Try.f4 fun v _ => okV (V.bool (lawSums x y)) v) ⟨[(V.ints .u64 5 x), (V.ints .u64 5 y)] ++ List.replicate 32 V.un, []⟩ := by
  rw [lawSums_t]
  refine mBt (fun h1 => ?_) (fun h1 => ?_)
  · refine mBt (fun h2 => ?_) (fun h2 => ?_)
    · simp only [lawSums, h1, h2, cond_true]
    · simp only [lawSums, h1, h2, cond_true, cond_false]
  · simp only [lawSums, h1, cond_false]
def g4 : List V → Option (Bool × V) := fun | [.ints .u64 5 x, .ints .u64 5 y] => some (true, (V.bool (lawSums x y))) | _ => none
theorem lawSums_p (x : (Nat → Int)) (y : (Nat → Int)) : (∀ μ μ', V.den μ' (V.bool (lawSums x y)) = V.den μ (V.bool (lawSums x y))) ∧ ∀ μ w, PureAt Try.prog 4 (([(V.ints .u64 5 x), (V.ints .u64 5 y)] : List V).map (V.den μ)).toArray (V.den μ (V.bool (lawSums x y))) w :=
  pure_ok (F := o27) (N := 300) (fn := Try.f4) (args := [(V.ints .u64 5 x), (V.ints .u64 5 y)]) (r := (V.bool (lawSums x y))) (n := 32) hM o27_ok (noG_ok _) Try.func4 (by kernel_rfl) (by kernel_rfl) (by kernel_rfl) (by kernel_rfl) (lawSums_a x y) (by kernel_rfl)
theorem g4_ok (vs : List V) (v : V) (h : g4 vs = some (true, v)) : (∀ μ μ', v.den μ' = v.den μ) ∧ ∀ μ w, PureAt Try.prog 4 (vs.map (V.den μ)).toArray (v.den μ) w := by
  unfold g4 at h
  split at h
  · simp only [Option.some.injEq, Prod.mk.injEq, true_and] at h
    subst h
    exact lawSums_p _ _
  · simp at h
def o4 : Orc := ext 4 g4 o27
theorem o4_ok : OrcOK Try.prog o4 := ext_ok o27_ok g4_ok
end Go.Proofs.Ytbnclikjbnfodaa
