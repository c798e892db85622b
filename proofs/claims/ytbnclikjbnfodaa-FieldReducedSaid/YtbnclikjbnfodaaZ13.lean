/-
  A part of the groundwork of this seat's claims: an evaluator over the program, walks, and plain mathematics. Conditions: none.
-/
import Derived.Test.YtbnclikjbnfodaaZ12
import Derived.Laws.Externs
/-
  Rows of digits filled bit by bit; what FromBytes and Bytes of the document come to, and the program's Bytes. Conditions: none.
-/
namespace Go.Num

/-- Digit j, of w bits, of the lowest k bits of N. -/
def dg (w : Nat) (N : Int) (k j : Nat) : Int := N % 2 ^ k / 2 ^ (w * j) % 2 ^ w

theorem dg_zero (w : Nat) (N : Int) (j : Nat) : dg w N 0 j = 0 := by simp [dg, Int.emod_one]

theorem pow_le' {a b : Nat} (h : a ≤ b) : (2 : Int) ^ a ≤ 2 ^ b := by
  have : 2 ^ a ≤ 2 ^ b := Nat.pow_le_pow_right (by omega) h
  exact_mod_cast this

theorem dg_here {w : Nat} (hw : 0 < w) (N : Int) (k : Nat) : dg w N k (k / w) = N % 2 ^ k / 2 ^ (w * (k / w)) ∧ 0 ≤ dg w N k (k / w) ∧ dg w N k (k / w) < 2 ^ (k % w) := by
  have hk : w * (k / w) + k % w = k := Nat.div_add_mod k w
  have hs : k % w < w := Nat.mod_lt _ hw
  have r0 := Int.emod_nonneg N (Int.ne_of_gt (pow_pos' (show (0 : Int) < 2 by omega) k))
  have r1 := Int.emod_lt_of_pos N (pow_pos' (show (0 : Int) < 2 by omega) k)
  have hp := pow_pos' (show (0 : Int) < 2 by omega) (w * (k / w))
  have e : (2 : Int) ^ k = 2 ^ (w * (k / w)) * 2 ^ (k % w) := by rw [← Int.pow_add, hk]
  have q0 : 0 ≤ N % 2 ^ k / 2 ^ (w * (k / w)) := Int.ediv_nonneg r0 (by omega)
  have q1 : N % 2 ^ k / 2 ^ (w * (k / w)) < 2 ^ (k % w) := Int.ediv_lt_of_lt_mul hp (by rw [Int.mul_comm, ← e]; exact r1)
  have hle := pow_le' (show k % w ≤ w by omega)
  have h : dg w N k (k / w) = N % 2 ^ k / 2 ^ (w * (k / w)) := by
    unfold dg; exact Int.emod_eq_of_lt q0 (by omega)
  exact ⟨h, by rw [h]; exact q0, by rw [h]; exact q1⟩

theorem dg_step {w : Nat} (hw : 0 < w) (N : Int) (k j : Nat) : dg w N (k + 1) j = if j = k / w then dg w N k j + N / 2 ^ k % 2 * 2 ^ (k % w) else dg w N k j := by
  have hk : w * (k / w) + k % w = k := Nat.div_add_mod k w
  have hs : k % w < w := Nat.mod_lt _ hw
  have e1 : N % 2 ^ (k + 1) = N % 2 ^ k + 2 ^ k * (N / 2 ^ k % 2) := by
    rw [Int.pow_succ]; exact (emod_mul' (pow_pos' (by omega) k) (by omega)).symm
  have ht : 0 ≤ N / 2 ^ k % 2 ∧ N / 2 ^ k % 2 ≤ 1 := by omega
  have r0 := Int.emod_nonneg N (Int.ne_of_gt (pow_pos' (show (0 : Int) < 2 by omega) k))
  have r1 := Int.emod_lt_of_pos N (pow_pos' (show (0 : Int) < 2 by omega) k)
  by_cases h : j = k / w
  · rw [if_pos h]
    obtain ⟨h1, h2, h3⟩ := dg_here hw N k
    rw [h, h1] at *
    rw [h1] at h2 h3
    unfold dg
    rw [e1]
    have e2 : (2 : Int) ^ k * (N / 2 ^ k % 2) = 2 ^ (w * (k / w)) * (N / 2 ^ k % 2 * 2 ^ (k % w)) := by
      have : (2 : Int) ^ k = 2 ^ (w * (k / w)) * 2 ^ (k % w) := by rw [← Int.pow_add, hk]
      generalize N / 2 ^ k % 2 = t
      rw [this, Int.mul_assoc, Int.mul_comm (2 ^ (k % w))]
    rw [e2, Int.add_mul_ediv_left _ _ (Int.ne_of_gt (pow_pos' (by omega) _))]
    refine Int.emod_eq_of_lt ?_ ?_
    · have := Int.mul_nonneg ht.1 (Int.le_of_lt (pow_pos' (show (0 : Int) < 2 by omega) (k % w)))
      omega
    · have h4 : N / 2 ^ k % 2 * 2 ^ (k % w) ≤ 2 ^ (k % w) := by
        have := Int.mul_le_mul_of_nonneg_right ht.2 (Int.le_of_lt (pow_pos' (show (0 : Int) < 2 by omega) (k % w)))
        omega
      have h5 := pow_le' (show k % w + 1 ≤ w by omega)
      rw [Int.pow_succ] at h5
      omega
  · rw [if_neg h]
    unfold dg
    rw [e1]
    by_cases hlt : j < k / w
    · have hle : w * j + w ≤ k := by
        have h1 : w * (j + 1) ≤ w * (k / w) := Nat.mul_le_mul_left w hlt
        rw [Nat.mul_succ] at h1; omega
      have e2 : (2 : Int) ^ k * (N / 2 ^ k % 2) = 2 ^ (w * j) * (2 ^ w * (2 ^ (k - (w * j + w)) * (N / 2 ^ k % 2))) := by
        have : (2 : Int) ^ k = 2 ^ (w * j) * (2 ^ w * 2 ^ (k - (w * j + w))) := by
          rw [← Int.pow_add, ← Int.pow_add, show w * j + (w + (k - (w * j + w))) = k by omega]
        generalize N / 2 ^ k % 2 = t
        rw [this, Int.mul_assoc, Int.mul_assoc]
      rw [e2, Int.add_mul_ediv_left _ _ (Int.ne_of_gt (pow_pos' (by omega) _)), Int.add_mul_emod_self_left]
    · have hgt : k + 1 ≤ w * j := by
        have h1 : w * (k / w + 1) ≤ w * j := Nat.mul_le_mul_left w (by omega)
        rw [Nat.mul_succ] at h1; omega
      have hp := pow_le' hgt
      rw [Int.pow_succ] at hp
      have hm : 2 ^ k * (N / 2 ^ k % 2) ≤ 2 ^ k := by
        have := Int.mul_le_mul_of_nonneg_left ht.2 (Int.le_of_lt (pow_pos' (show (0 : Int) < 2 by omega) k))
        omega
      have hm0 := Int.mul_nonneg (Int.le_of_lt (pow_pos' (show (0 : Int) < 2 by omega) k)) ht.1
      rw [Int.ediv_eq_zero_of_lt (by omega) (by omega), Int.ediv_eq_zero_of_lt r0 (by omega)]

/-- All the digits of the lowest k bits. -/
theorem dg_all {w n k : Nat} {N : Int} (hk : k ≤ w * n) : dv (2 ^ w) n (dg w N k) = N % 2 ^ k := by
  have e : dg w N k = fun j => (N % 2 ^ k) / (2 ^ w) ^ j % 2 ^ w := funext fun j => by unfold dg; rw [← Int.pow_mul]
  rw [e, dv_digits (pow_pos' (by omega) w), ← Int.pow_mul]
  have r0 := Int.emod_nonneg N (Int.ne_of_gt (pow_pos' (show (0 : Int) < 2 by omega) k))
  have r1 := Int.emod_lt_of_pos N (pow_pos' (show (0 : Int) < 2 by omega) k)
  have := pow_le' hk
  exact Int.emod_eq_of_lt r0 (by omega)
end Go.Num
namespace Go.Ev
theorem shrU8 (a : Int) (k : Nat) (hk : k ≤ 8) : shrI .u8 a (k : Int) = a / 2 ^ k := by
  unfold shrI
  rw [show min (Int.toNat (k : Int)) (IntKind.bits .u8) = k from Nat.min_eq_left hk]
  exact Int.fdiv_eq_ediv_of_nonneg _ (by exact_mod_cast Nat.zero_le (2 ^ k))
theorem shlU8 (a : Int) (k : Nat) (hk : k ≤ 8) : shlI .u8 a (k : Int) = (a * 2 ^ k) % 256 := by
  unfold shlI
  rw [show min (Int.toNat (k : Int)) (IntKind.bits .u8) = k from Nat.min_eq_left hk]
  exact wrap_u8 _
theorem addU8 (a b : Int) : addI .u8 a b = (a + b) % 256 := wrap_u8 _
theorem and8_1 (a : Int) : andI .u8 a 1 = a % 2 := by
  unfold andI bits2
  have e1 : (BitVec.ofInt (IntKind.bits .u8) a).toNat = (a % 256).toNat := by rw [BitVec.toNat_ofInt]; rfl
  have e2 : (BitVec.ofInt (IntKind.bits .u8) 1).toNat = 2 ^ 1 - 1 := by decide
  rw [BitVec.toNat_and, e1, e2, Nat.and_two_pow_sub_one_eq_mod, wrap_u8]
  omega
end Go.Ev
namespace Go.Proofs.Ytbnclikjbnfodaa
open Go.Ev Go.Num

theorem e26 : (67108864 : Int) = 2 ^ 26 := by decide
theorem e8 : (256 : Int) = 2 ^ 8 := by decide

theorem fb_it {b : Nat → Int} (h : B32 b) : ∀ k, k ≤ 255 → ∀ j, j < 10 → rFromBytes_it b k j = dg 26 (vb b) k j
  | 0, _, j, _ => by rw [dg_zero]; rfl
  | k + 1, hk, j, hj => by
    have ih := fb_it h k (by omega)
    show rFromBytes_st b (k : Int) (rFromBytes_it b k) j = _
    unfold rFromBytes_st
    rw [show quoI .i64 (k : Int) 26 = ((k / 26 : Nat) : Int) from quo_nat k 26 (by omega), show quoI .i64 (k : Int) 8 = ((k / 8 : Nat) : Int) from quo_nat k 8 (by omega), show remI (k : Int) 8 = ((k % 8 : Nat) : Int) from rem_nat k 8, show remI (k : Int) 26 = ((k % 26 : Nat) : Int) from rem_nat k 26]
    simp only [Int.toNat_natCast, Nat.mul_one, Nat.zero_add]
    rw [up_at, dg_step (by omega)]
    split
    · rename_i e
      subst e
      obtain ⟨h1, h2, h3⟩ := dg_here (w := 26) (by omega) (vb b) k
      have hbit : andI .u8 (shrI .u8 (b (k / 8)) ((k % 8 : Nat) : Int)) 1 = vb b / 2 ^ k % 2 := by
        rw [and8_1, shrU8 _ _ (by omega)]
        have := digit_bit (k := 8) (a := b) (n := 32) (m := k / 8) (r := k % 8) (fun i hi => by rw [← e8]; exact h i hi) (by omega) (by omega)
        rw [Nat.div_add_mod, ← e8] at this
        exact this.symm
      rw [hbit, ih _ hj, wrap_u64, sm' (vb b / 2 ^ k % 2) (by omega) (by omega), shlU _ _ (by omega)]
      have hp := pow_le' (show k % 26 ≤ 25 by omega)
      have e25 : (2 : Int) ^ 25 = 33554432 := by decide
      have hp0 := pow_pos' (show (0 : Int) < 2 by omega) (k % 26)
      have ht : 0 ≤ vb b / 2 ^ k % 2 ∧ vb b / 2 ^ k % 2 ≤ 1 := by omega
      generalize vb b / 2 ^ k % 2 = t at *
      have hm : 0 ≤ t * 2 ^ (k % 26) ∧ t * 2 ^ (k % 26) ≤ 33554432 := by
        have h01 : t = 0 ∨ t = 1 := by omega
        rcases h01 with rfl | rfl <;> omega
      rw [sm' (t * 2 ^ (k % 26)) (by omega) (by omega), addU, sm' _ (by omega) (by omega)]
    · exact ih j hj

theorem rFromBytes_v {b : Nat → Int} (h : B32 b) : v10 (rFromBytes b) = vb b % 57896044618658097711785492504343953926634992332820282019728792003956564819968 % p ∧ D10 (rFromBytes b) := by
  have hd : ∀ j, j < 10 → 0 ≤ rFromBytes_it b 255 j ∧ rFromBytes_it b 255 j < 67108864 := fun j hj => by
    rw [fb_it h 255 (by omega) j hj]; unfold dg; rw [← e26]; omega
  have hl := least_nf (f := rFromBytes_it b 255) (fun j hj => by have := hd j hj; omega)
  have hv : v10 (rFromBytes_it b 255) = vb b % 57896044618658097711785492504343953926634992332820282019728792003956564819968 := by
    have e : v10 (rFromBytes_it b 255) = dv 67108864 10 (dg 26 (vb b) 255) := dv_congr fun j hj => fb_it h 255 (by omega) j hj
    rw [e, e26, dg_all (by omega)]
    rfl
  rw [hv] at hl
  exact hl

theorem tb_it {a : Nat → Int} (h : D10 a) : ∀ k, k ≤ 255 → ∀ j, j < 32 → rBytes_it a k j = dg 8 (v10 a) k j
  | 0, _, j, _ => by rw [dg_zero]; rfl
  | k + 1, hk, j, hj => by
    have ih := tb_it h k (by omega)
    show rBytes_st a (k : Int) (rBytes_it a k) j = _
    unfold rBytes_st
    rw [show quoI .i64 (k : Int) 26 = ((k / 26 : Nat) : Int) from quo_nat k 26 (by omega), show quoI .i64 (k : Int) 8 = ((k / 8 : Nat) : Int) from quo_nat k 8 (by omega), show remI (k : Int) 8 = ((k % 8 : Nat) : Int) from rem_nat k 8, show remI (k : Int) 26 = ((k % 26 : Nat) : Int) from rem_nat k 26]
    simp only [Int.toNat_natCast, Nat.mul_one, Nat.zero_add]
    rw [up_at, dg_step (by omega)]
    split
    · rename_i e
      subst e
      obtain ⟨h1, h2, h3⟩ := dg_here (w := 8) (by omega) (v10 a) k
      have hbit : andI .u64 (shrI .u64 (a (k / 26)) ((k % 26 : Nat) : Int)) 1 = v10 a / 2 ^ k % 2 := by
        rw [and1, shrU _ _ (by omega)]
        have := digit_bit (k := 26) (a := a) (n := 10) (m := k / 26) (r := k % 26) (fun i hi => by rw [← e26]; exact h.dig i hi) (by omega) (by omega)
        rw [Nat.div_add_mod, ← e26] at this
        exact this.symm
      rw [hbit, ih _ hj, wrap_u8, Int.emod_eq_of_lt (a := v10 a / 2 ^ k % 2) (by omega) (by omega), shlU8 _ _ (by omega)]
      have hp := pow_le' (show k % 8 ≤ 7 by omega)
      have e7 : (2 : Int) ^ 7 = 128 := by decide
      have hp0 := pow_pos' (show (0 : Int) < 2 by omega) (k % 8)
      have ht : 0 ≤ v10 a / 2 ^ k % 2 ∧ v10 a / 2 ^ k % 2 ≤ 1 := by omega
      generalize v10 a / 2 ^ k % 2 = t at *
      have hm : 0 ≤ t * 2 ^ (k % 8) ∧ t * 2 ^ (k % 8) ≤ 128 := by
        have h01 : t = 0 ∨ t = 1 := by omega
        rcases h01 with rfl | rfl <;> omega
      rw [Int.emod_eq_of_lt (a := t * 2 ^ (k % 8)) (by omega) (by omega), addU8, Int.emod_eq_of_lt (by omega) (by omega)]
    · exact ih j hj

theorem rBytes_v {a : Nat → Int} (h : D10 a) : ∀ j, j < 32 → rBytes a j = v10 a / 256 ^ j % 256 := by
  intro j hj
  show rBytes_it a 255 j = _
  rw [tb_it h 255 (by omega) j hj]
  unfold dg
  have hl := h.lt
  have e : v10 a % 2 ^ 255 = v10 a := Int.emod_eq_of_lt h.nonneg (by
    have : (2 : Int) ^ 255 = p + 19 := by decide
    omega)
  rw [e, e8, ← Int.pow_mul]

theorem byte_at0 {r : Nat → Int} (hr : ∀ j, j < 5 → 0 ≤ r j ∧ r j < 2251799813685248) : IntKind.wrap .u8 (shrI .u64 (r 0) 0) = v5 r / 1 % 256 := by
  have g0 := hr 0 (by omega); have g1 := hr 1 (by omega); have g2 := hr 2 (by omega); have g3 := hr 3 (by omega); have g4 := hr 4 (by omega)
  rw [show shrI .u64 (r 0) 0 = r 0 / 1 from shrU _ 0 (by omega)]
  rw [wrap_u8, v5_eq]
  omega
theorem byte_at1 {r : Nat → Int} (hr : ∀ j, j < 5 → 0 ≤ r j ∧ r j < 2251799813685248) : IntKind.wrap .u8 (shrI .u64 (r 0) 8) = v5 r / 256 % 256 := by
  have g0 := hr 0 (by omega); have g1 := hr 1 (by omega); have g2 := hr 2 (by omega); have g3 := hr 3 (by omega); have g4 := hr 4 (by omega)
  rw [show shrI .u64 (r 0) 8 = r 0 / 256 from shrU _ 8 (by omega)]
  rw [wrap_u8, v5_eq]
  omega
theorem byte_at2 {r : Nat → Int} (hr : ∀ j, j < 5 → 0 ≤ r j ∧ r j < 2251799813685248) : IntKind.wrap .u8 (shrI .u64 (r 0) 16) = v5 r / 65536 % 256 := by
  have g0 := hr 0 (by omega); have g1 := hr 1 (by omega); have g2 := hr 2 (by omega); have g3 := hr 3 (by omega); have g4 := hr 4 (by omega)
  rw [show shrI .u64 (r 0) 16 = r 0 / 65536 from shrU _ 16 (by omega)]
  rw [wrap_u8, v5_eq]
  omega
theorem byte_at3 {r : Nat → Int} (hr : ∀ j, j < 5 → 0 ≤ r j ∧ r j < 2251799813685248) : IntKind.wrap .u8 (shrI .u64 (r 0) 24) = v5 r / 16777216 % 256 := by
  have g0 := hr 0 (by omega); have g1 := hr 1 (by omega); have g2 := hr 2 (by omega); have g3 := hr 3 (by omega); have g4 := hr 4 (by omega)
  rw [show shrI .u64 (r 0) 24 = r 0 / 16777216 from shrU _ 24 (by omega)]
  rw [wrap_u8, v5_eq]
  omega
theorem byte_at4 {r : Nat → Int} (hr : ∀ j, j < 5 → 0 ≤ r j ∧ r j < 2251799813685248) : IntKind.wrap .u8 (shrI .u64 (r 0) 32) = v5 r / 4294967296 % 256 := by
  have g0 := hr 0 (by omega); have g1 := hr 1 (by omega); have g2 := hr 2 (by omega); have g3 := hr 3 (by omega); have g4 := hr 4 (by omega)
  rw [show shrI .u64 (r 0) 32 = r 0 / 4294967296 from shrU _ 32 (by omega)]
  rw [wrap_u8, v5_eq]
  omega
theorem byte_at5 {r : Nat → Int} (hr : ∀ j, j < 5 → 0 ≤ r j ∧ r j < 2251799813685248) : IntKind.wrap .u8 (shrI .u64 (r 0) 40) = v5 r / 1099511627776 % 256 := by
  have g0 := hr 0 (by omega); have g1 := hr 1 (by omega); have g2 := hr 2 (by omega); have g3 := hr 3 (by omega); have g4 := hr 4 (by omega)
  rw [show shrI .u64 (r 0) 40 = r 0 / 1099511627776 from shrU _ 40 (by omega)]
  rw [wrap_u8, v5_eq]
  omega
theorem byte_at6 {r : Nat → Int} (hr : ∀ j, j < 5 → 0 ≤ r j ∧ r j < 2251799813685248) : IntKind.wrap .u8 (orI .u64 (shrI .u64 (r 0) 48) (shlI .u64 (r 1) 3)) = v5 r / 281474976710656 % 256 := by
  have g0 := hr 0 (by omega); have g1 := hr 1 (by omega); have g2 := hr 2 (by omega); have g3 := hr 3 (by omega); have g4 := hr 4 (by omega)
  have h1 := hr 0 (by omega); have h2 := hr 1 (by omega)
  rw [show shrI .u64 (r 0) 48 = r 0 / 281474976710656 from shrU _ 48 (by omega)]
  rw [show shlI .u64 (r 1) 3 = (r 1 * 8) % 18446744073709551616 from shlU _ 3 (by omega)]
  rw [sm' (r 1 * 8) (by omega) (by omega)]
  rw [show (r 1 * 8 : Int) = r 1 * 2 ^ 3 from rfl, or_add 3 (by omega) (by show r 0 / 281474976710656 < 2 ^ 3; omega) (by omega) (by omega)]
  rw [wrap_u8, v5_eq]
  omega
theorem byte_at7 {r : Nat → Int} (hr : ∀ j, j < 5 → 0 ≤ r j ∧ r j < 2251799813685248) : IntKind.wrap .u8 (shrI .u64 (r 1) 5) = v5 r / 72057594037927936 % 256 := by
  have g0 := hr 0 (by omega); have g1 := hr 1 (by omega); have g2 := hr 2 (by omega); have g3 := hr 3 (by omega); have g4 := hr 4 (by omega)
  rw [show shrI .u64 (r 1) 5 = r 1 / 32 from shrU _ 5 (by omega)]
  rw [wrap_u8, v5_eq]
  omega
theorem byte_at8 {r : Nat → Int} (hr : ∀ j, j < 5 → 0 ≤ r j ∧ r j < 2251799813685248) : IntKind.wrap .u8 (shrI .u64 (r 1) 13) = v5 r / 18446744073709551616 % 256 := by
  have g0 := hr 0 (by omega); have g1 := hr 1 (by omega); have g2 := hr 2 (by omega); have g3 := hr 3 (by omega); have g4 := hr 4 (by omega)
  rw [show shrI .u64 (r 1) 13 = r 1 / 8192 from shrU _ 13 (by omega)]
  rw [wrap_u8, v5_eq]
  omega
theorem byte_at9 {r : Nat → Int} (hr : ∀ j, j < 5 → 0 ≤ r j ∧ r j < 2251799813685248) : IntKind.wrap .u8 (shrI .u64 (r 1) 21) = v5 r / 4722366482869645213696 % 256 := by
  have g0 := hr 0 (by omega); have g1 := hr 1 (by omega); have g2 := hr 2 (by omega); have g3 := hr 3 (by omega); have g4 := hr 4 (by omega)
  rw [show shrI .u64 (r 1) 21 = r 1 / 2097152 from shrU _ 21 (by omega)]
  rw [wrap_u8, v5_eq]
  omega
theorem byte_at10 {r : Nat → Int} (hr : ∀ j, j < 5 → 0 ≤ r j ∧ r j < 2251799813685248) : IntKind.wrap .u8 (shrI .u64 (r 1) 29) = v5 r / 1208925819614629174706176 % 256 := by
  have g0 := hr 0 (by omega); have g1 := hr 1 (by omega); have g2 := hr 2 (by omega); have g3 := hr 3 (by omega); have g4 := hr 4 (by omega)
  rw [show shrI .u64 (r 1) 29 = r 1 / 536870912 from shrU _ 29 (by omega)]
  rw [wrap_u8, v5_eq]
  omega
theorem byte_at11 {r : Nat → Int} (hr : ∀ j, j < 5 → 0 ≤ r j ∧ r j < 2251799813685248) : IntKind.wrap .u8 (shrI .u64 (r 1) 37) = v5 r / 309485009821345068724781056 % 256 := by
  have g0 := hr 0 (by omega); have g1 := hr 1 (by omega); have g2 := hr 2 (by omega); have g3 := hr 3 (by omega); have g4 := hr 4 (by omega)
  rw [show shrI .u64 (r 1) 37 = r 1 / 137438953472 from shrU _ 37 (by omega)]
  rw [wrap_u8, v5_eq]
  omega
theorem byte_at12 {r : Nat → Int} (hr : ∀ j, j < 5 → 0 ≤ r j ∧ r j < 2251799813685248) : IntKind.wrap .u8 (orI .u64 (shrI .u64 (r 1) 45) (shlI .u64 (r 2) 6)) = v5 r / 79228162514264337593543950336 % 256 := by
  have g0 := hr 0 (by omega); have g1 := hr 1 (by omega); have g2 := hr 2 (by omega); have g3 := hr 3 (by omega); have g4 := hr 4 (by omega)
  have h1 := hr 1 (by omega); have h2 := hr 2 (by omega)
  rw [show shrI .u64 (r 1) 45 = r 1 / 35184372088832 from shrU _ 45 (by omega)]
  rw [show shlI .u64 (r 2) 6 = (r 2 * 64) % 18446744073709551616 from shlU _ 6 (by omega)]
  rw [sm' (r 2 * 64) (by omega) (by omega)]
  rw [show (r 2 * 64 : Int) = r 2 * 2 ^ 6 from rfl, or_add 6 (by omega) (by show r 1 / 35184372088832 < 2 ^ 6; omega) (by omega) (by omega)]
  rw [wrap_u8, v5_eq]
  omega
theorem byte_at13 {r : Nat → Int} (hr : ∀ j, j < 5 → 0 ≤ r j ∧ r j < 2251799813685248) : IntKind.wrap .u8 (shrI .u64 (r 2) 2) = v5 r / 20282409603651670423947251286016 % 256 := by
  have g0 := hr 0 (by omega); have g1 := hr 1 (by omega); have g2 := hr 2 (by omega); have g3 := hr 3 (by omega); have g4 := hr 4 (by omega)
  rw [show shrI .u64 (r 2) 2 = r 2 / 4 from shrU _ 2 (by omega)]
  rw [wrap_u8, v5_eq]
  omega
theorem byte_at14 {r : Nat → Int} (hr : ∀ j, j < 5 → 0 ≤ r j ∧ r j < 2251799813685248) : IntKind.wrap .u8 (shrI .u64 (r 2) 10) = v5 r / 5192296858534827628530496329220096 % 256 := by
  have g0 := hr 0 (by omega); have g1 := hr 1 (by omega); have g2 := hr 2 (by omega); have g3 := hr 3 (by omega); have g4 := hr 4 (by omega)
  rw [show shrI .u64 (r 2) 10 = r 2 / 1024 from shrU _ 10 (by omega)]
  rw [wrap_u8, v5_eq]
  omega
theorem byte_at15 {r : Nat → Int} (hr : ∀ j, j < 5 → 0 ≤ r j ∧ r j < 2251799813685248) : IntKind.wrap .u8 (shrI .u64 (r 2) 18) = v5 r / 1329227995784915872903807060280344576 % 256 := by
  have g0 := hr 0 (by omega); have g1 := hr 1 (by omega); have g2 := hr 2 (by omega); have g3 := hr 3 (by omega); have g4 := hr 4 (by omega)
  rw [show shrI .u64 (r 2) 18 = r 2 / 262144 from shrU _ 18 (by omega)]
  rw [wrap_u8, v5_eq]
  omega
theorem byte_at16 {r : Nat → Int} (hr : ∀ j, j < 5 → 0 ≤ r j ∧ r j < 2251799813685248) : IntKind.wrap .u8 (shrI .u64 (r 2) 26) = v5 r / 340282366920938463463374607431768211456 % 256 := by
  have g0 := hr 0 (by omega); have g1 := hr 1 (by omega); have g2 := hr 2 (by omega); have g3 := hr 3 (by omega); have g4 := hr 4 (by omega)
  rw [show shrI .u64 (r 2) 26 = r 2 / 67108864 from shrU _ 26 (by omega)]
  rw [wrap_u8, v5_eq]
  omega
theorem byte_at17 {r : Nat → Int} (hr : ∀ j, j < 5 → 0 ≤ r j ∧ r j < 2251799813685248) : IntKind.wrap .u8 (shrI .u64 (r 2) 34) = v5 r / 87112285931760246646623899502532662132736 % 256 := by
  have g0 := hr 0 (by omega); have g1 := hr 1 (by omega); have g2 := hr 2 (by omega); have g3 := hr 3 (by omega); have g4 := hr 4 (by omega)
  rw [show shrI .u64 (r 2) 34 = r 2 / 17179869184 from shrU _ 34 (by omega)]
  rw [wrap_u8, v5_eq]
  omega
theorem byte_at18 {r : Nat → Int} (hr : ∀ j, j < 5 → 0 ≤ r j ∧ r j < 2251799813685248) : IntKind.wrap .u8 (shrI .u64 (r 2) 42) = v5 r / 22300745198530623141535718272648361505980416 % 256 := by
  have g0 := hr 0 (by omega); have g1 := hr 1 (by omega); have g2 := hr 2 (by omega); have g3 := hr 3 (by omega); have g4 := hr 4 (by omega)
  rw [show shrI .u64 (r 2) 42 = r 2 / 4398046511104 from shrU _ 42 (by omega)]
  rw [wrap_u8, v5_eq]
  omega
theorem byte_at19 {r : Nat → Int} (hr : ∀ j, j < 5 → 0 ≤ r j ∧ r j < 2251799813685248) : IntKind.wrap .u8 (orI .u64 (shrI .u64 (r 2) 50) (shlI .u64 (r 3) 1)) = v5 r / 5708990770823839524233143877797980545530986496 % 256 := by
  have g0 := hr 0 (by omega); have g1 := hr 1 (by omega); have g2 := hr 2 (by omega); have g3 := hr 3 (by omega); have g4 := hr 4 (by omega)
  have h1 := hr 2 (by omega); have h2 := hr 3 (by omega)
  rw [show shrI .u64 (r 2) 50 = r 2 / 1125899906842624 from shrU _ 50 (by omega)]
  rw [show shlI .u64 (r 3) 1 = (r 3 * 2) % 18446744073709551616 from shlU _ 1 (by omega)]
  rw [sm' (r 3 * 2) (by omega) (by omega)]
  rw [show (r 3 * 2 : Int) = r 3 * 2 ^ 1 from rfl, or_add 1 (by omega) (by show r 2 / 1125899906842624 < 2 ^ 1; omega) (by omega) (by omega)]
  rw [wrap_u8, v5_eq]
  omega
theorem byte_at20 {r : Nat → Int} (hr : ∀ j, j < 5 → 0 ≤ r j ∧ r j < 2251799813685248) : IntKind.wrap .u8 (shrI .u64 (r 3) 7) = v5 r / 1461501637330902918203684832716283019655932542976 % 256 := by
  have g0 := hr 0 (by omega); have g1 := hr 1 (by omega); have g2 := hr 2 (by omega); have g3 := hr 3 (by omega); have g4 := hr 4 (by omega)
  rw [show shrI .u64 (r 3) 7 = r 3 / 128 from shrU _ 7 (by omega)]
  rw [wrap_u8, v5_eq]
  omega
theorem byte_at21 {r : Nat → Int} (hr : ∀ j, j < 5 → 0 ≤ r j ∧ r j < 2251799813685248) : IntKind.wrap .u8 (shrI .u64 (r 3) 15) = v5 r / 374144419156711147060143317175368453031918731001856 % 256 := by
  have g0 := hr 0 (by omega); have g1 := hr 1 (by omega); have g2 := hr 2 (by omega); have g3 := hr 3 (by omega); have g4 := hr 4 (by omega)
  rw [show shrI .u64 (r 3) 15 = r 3 / 32768 from shrU _ 15 (by omega)]
  rw [wrap_u8, v5_eq]
  omega
theorem byte_at22 {r : Nat → Int} (hr : ∀ j, j < 5 → 0 ≤ r j ∧ r j < 2251799813685248) : IntKind.wrap .u8 (shrI .u64 (r 3) 23) = v5 r / 95780971304118053647396689196894323976171195136475136 % 256 := by
  have g0 := hr 0 (by omega); have g1 := hr 1 (by omega); have g2 := hr 2 (by omega); have g3 := hr 3 (by omega); have g4 := hr 4 (by omega)
  rw [show shrI .u64 (r 3) 23 = r 3 / 8388608 from shrU _ 23 (by omega)]
  rw [wrap_u8, v5_eq]
  omega
theorem byte_at23 {r : Nat → Int} (hr : ∀ j, j < 5 → 0 ≤ r j ∧ r j < 2251799813685248) : IntKind.wrap .u8 (shrI .u64 (r 3) 31) = v5 r / 24519928653854221733733552434404946937899825954937634816 % 256 := by
  have g0 := hr 0 (by omega); have g1 := hr 1 (by omega); have g2 := hr 2 (by omega); have g3 := hr 3 (by omega); have g4 := hr 4 (by omega)
  rw [show shrI .u64 (r 3) 31 = r 3 / 2147483648 from shrU _ 31 (by omega)]
  rw [wrap_u8, v5_eq]
  omega
theorem byte_at24 {r : Nat → Int} (hr : ∀ j, j < 5 → 0 ≤ r j ∧ r j < 2251799813685248) : IntKind.wrap .u8 (shrI .u64 (r 3) 39) = v5 r / 6277101735386680763835789423207666416102355444464034512896 % 256 := by
  have g0 := hr 0 (by omega); have g1 := hr 1 (by omega); have g2 := hr 2 (by omega); have g3 := hr 3 (by omega); have g4 := hr 4 (by omega)
  rw [show shrI .u64 (r 3) 39 = r 3 / 549755813888 from shrU _ 39 (by omega)]
  rw [wrap_u8, v5_eq]
  omega
theorem byte_at25 {r : Nat → Int} (hr : ∀ j, j < 5 → 0 ≤ r j ∧ r j < 2251799813685248) : IntKind.wrap .u8 (orI .u64 (shrI .u64 (r 3) 47) (shlI .u64 (r 4) 4)) = v5 r / 1606938044258990275541962092341162602522202993782792835301376 % 256 := by
  have g0 := hr 0 (by omega); have g1 := hr 1 (by omega); have g2 := hr 2 (by omega); have g3 := hr 3 (by omega); have g4 := hr 4 (by omega)
  have h1 := hr 3 (by omega); have h2 := hr 4 (by omega)
  rw [show shrI .u64 (r 3) 47 = r 3 / 140737488355328 from shrU _ 47 (by omega)]
  rw [show shlI .u64 (r 4) 4 = (r 4 * 16) % 18446744073709551616 from shlU _ 4 (by omega)]
  rw [sm' (r 4 * 16) (by omega) (by omega)]
  rw [show (r 4 * 16 : Int) = r 4 * 2 ^ 4 from rfl, or_add 4 (by omega) (by show r 3 / 140737488355328 < 2 ^ 4; omega) (by omega) (by omega)]
  rw [wrap_u8, v5_eq]
  omega
theorem byte_at26 {r : Nat → Int} (hr : ∀ j, j < 5 → 0 ≤ r j ∧ r j < 2251799813685248) : IntKind.wrap .u8 (shrI .u64 (r 4) 4) = v5 r / 411376139330301510538742295639337626245683966408394965837152256 % 256 := by
  have g0 := hr 0 (by omega); have g1 := hr 1 (by omega); have g2 := hr 2 (by omega); have g3 := hr 3 (by omega); have g4 := hr 4 (by omega)
  rw [show shrI .u64 (r 4) 4 = r 4 / 16 from shrU _ 4 (by omega)]
  rw [wrap_u8, v5_eq]
  omega
theorem byte_at27 {r : Nat → Int} (hr : ∀ j, j < 5 → 0 ≤ r j ∧ r j < 2251799813685248) : IntKind.wrap .u8 (shrI .u64 (r 4) 12) = v5 r / 105312291668557186697918027683670432318895095400549111254310977536 % 256 := by
  have g0 := hr 0 (by omega); have g1 := hr 1 (by omega); have g2 := hr 2 (by omega); have g3 := hr 3 (by omega); have g4 := hr 4 (by omega)
  rw [show shrI .u64 (r 4) 12 = r 4 / 4096 from shrU _ 12 (by omega)]
  rw [wrap_u8, v5_eq]
  omega
theorem byte_at28 {r : Nat → Int} (hr : ∀ j, j < 5 → 0 ≤ r j ∧ r j < 2251799813685248) : IntKind.wrap .u8 (shrI .u64 (r 4) 20) = v5 r / 26959946667150639794667015087019630673637144422540572481103610249216 % 256 := by
  have g0 := hr 0 (by omega); have g1 := hr 1 (by omega); have g2 := hr 2 (by omega); have g3 := hr 3 (by omega); have g4 := hr 4 (by omega)
  rw [show shrI .u64 (r 4) 20 = r 4 / 1048576 from shrU _ 20 (by omega)]
  rw [wrap_u8, v5_eq]
  omega
theorem byte_at29 {r : Nat → Int} (hr : ∀ j, j < 5 → 0 ≤ r j ∧ r j < 2251799813685248) : IntKind.wrap .u8 (shrI .u64 (r 4) 28) = v5 r / 6901746346790563787434755862277025452451108972170386555162524223799296 % 256 := by
  have g0 := hr 0 (by omega); have g1 := hr 1 (by omega); have g2 := hr 2 (by omega); have g3 := hr 3 (by omega); have g4 := hr 4 (by omega)
  rw [show shrI .u64 (r 4) 28 = r 4 / 268435456 from shrU _ 28 (by omega)]
  rw [wrap_u8, v5_eq]
  omega
theorem byte_at30 {r : Nat → Int} (hr : ∀ j, j < 5 → 0 ≤ r j ∧ r j < 2251799813685248) : IntKind.wrap .u8 (shrI .u64 (r 4) 36) = v5 r / 1766847064778384329583297500742918515827483896875618958121606201292619776 % 256 := by
  have g0 := hr 0 (by omega); have g1 := hr 1 (by omega); have g2 := hr 2 (by omega); have g3 := hr 3 (by omega); have g4 := hr 4 (by omega)
  rw [show shrI .u64 (r 4) 36 = r 4 / 68719476736 from shrU _ 36 (by omega)]
  rw [wrap_u8, v5_eq]
  omega
theorem byte_at31 {r : Nat → Int} (hr : ∀ j, j < 5 → 0 ≤ r j ∧ r j < 2251799813685248) : IntKind.wrap .u8 (shrI .u64 (r 4) 44) = v5 r / 452312848583266388373324160190187140051835877600158453279131187530910662656 % 256 := by
  have g0 := hr 0 (by omega); have g1 := hr 1 (by omega); have g2 := hr 2 (by omega); have g3 := hr 3 (by omega); have g4 := hr 4 (by omega)
  rw [show shrI .u64 (r 4) 44 = r 4 / 17592186044416 from shrU _ 44 (by omega)]
  rw [wrap_u8, v5_eq]
  omega

theorem thirtytwo {P : Nat → Prop} (h : P 0 ∧ P 1 ∧ P 2 ∧ P 3 ∧ P 4 ∧ P 5 ∧ P 6 ∧ P 7 ∧ P 8 ∧ P 9 ∧ P 10 ∧ P 11 ∧ P 12 ∧ P 13 ∧ P 14 ∧ P 15 ∧ P 16 ∧ P 17 ∧ P 18 ∧ P 19 ∧ P 20 ∧ P 21 ∧ P 22 ∧ P 23 ∧ P 24 ∧ P 25 ∧ P 26 ∧ P 27 ∧ P 28 ∧ P 29 ∧ P 30 ∧ P 31) : ∀ j, j < 32 → P j := by
  intro j hj
  obtain ⟨h0, h1, h2, h3, h4, h5, h6, h7, h8, h9, h10, h11, h12, h13, h14, h15, h16, h17, h18, h19, h20, h21, h22, h23, h24, h25, h26, h27, h28, h29, h30, h31⟩ := h
  have h : j = 0 ∨ j = 1 ∨ j = 2 ∨ j = 3 ∨ j = 4 ∨ j = 5 ∨ j = 6 ∨ j = 7 ∨ j = 8 ∨ j = 9 ∨ j = 10 ∨ j = 11 ∨ j = 12 ∨ j = 13 ∨ j = 14 ∨ j = 15 ∨ j = 16 ∨ j = 17 ∨ j = 18 ∨ j = 19 ∨ j = 20 ∨ j = 21 ∨ j = 22 ∨ j = 23 ∨ j = 24 ∨ j = 25 ∨ j = 26 ∨ j = 27 ∨ j = 28 ∨ j = 29 ∨ j = 30 ∨ j = 31 := by omega
  rcases h with rfl | rfl | rfl | rfl | rfl | rfl | rfl | rfl | rfl | rfl | rfl | rfl | rfl | rfl | rfl | rfl | rfl | rfl | rfl | rfl | rfl | rfl | rfl | rfl | rfl | rfl | rfl | rfl | rfl | rfl | rfl | rfl <;> assumption

theorem bytes_v {x : Nat → Int} (h : U5 x) : ∀ j, j < 32 → bytesF x j = v5 x % p / 256 ^ j % 256 := by
  obtain ⟨r1, r2⟩ := reduce_v h
  rw [← r1]
  exact thirtytwo (P := fun j => bytesF x j = v5 (reduceF x) / 256 ^ j % 256) ⟨byte_at0 r2.lim, byte_at1 r2.lim, byte_at2 r2.lim, byte_at3 r2.lim, byte_at4 r2.lim, byte_at5 r2.lim, byte_at6 r2.lim, byte_at7 r2.lim, byte_at8 r2.lim, byte_at9 r2.lim, byte_at10 r2.lim, byte_at11 r2.lim, byte_at12 r2.lim, byte_at13 r2.lim, byte_at14 r2.lim, byte_at15 r2.lim, byte_at16 r2.lim, byte_at17 r2.lim, byte_at18 r2.lim, byte_at19 r2.lim, byte_at20 r2.lim, byte_at21 r2.lim, byte_at22 r2.lim, byte_at23 r2.lim, byte_at24 r2.lim, byte_at25 r2.lim, byte_at26 r2.lim, byte_at27 r2.lim, byte_at28 r2.lim, byte_at29 r2.lim, byte_at30 r2.lim, byte_at31 r2.lim⟩
end Go.Proofs.Ytbnclikjbnfodaa

/-
  FieldBytes answers true, of any bytes, limbs and small number. Conditions: none.
-/
namespace Go.Proofs.Ytbnclikjbnfodaa
open Go.Ev Go.Num

theorem bytes_is {x a : Nat → Int} (hx : U5 x) (ha : D10 a) (h : v5 x % p = v10 a) : eqN 32 (bytesF x) (rBytes a) = true := by
  rw [eqN_iff]
  intro j hj
  rw [bytes_v hx j hj, rBytes_v ha j hj, h]

theorem bytes_true {b x : Nat → Int} {n : Int} (hb : B32 b) (hx : U5 x) (hn : 0 ≤ n ∧ n < 18446744073709551616) : lawBytes b x n = true := by
  obtain ⟨f1, f2⟩ := fromBytes_v hb
  obtain ⟨r1, r2⟩ := rFromBytes_v hb
  obtain ⟨a1, a2⟩ := of_r hx
  obtain ⟨s1, s2⟩ := small_v hn.1 hn.2
  obtain ⟨t1, t2⟩ := small_r hn.1 hn.2
  have e1 := is_of f2 r2 (by rw [f1, r1])
  have e2 : canonicalF b = rCanonical b := by
    unfold canonicalF rCanonical
    have h := bytes_is f2.u r2 (by rw [f1, r1]; exact Int.emod_emod_of_dvd _ (Int.dvd_refl _))
    rw [eqN_iff] at h
    rw [Bool.eq_iff_iff, eqN_iff, eqN_iff]
    exact ⟨fun g j hj => by rw [← h j hj]; exact g j hj, fun g j hj => by rw [h j hj]; exact g j hj⟩
  have e3 := bytes_is hx a2 a1.symm
  have e4 := is_of s2 t2 (by rw [s1, t1])
  unfold lawBytes
  rw [e1, e2, e3, e4]
  simp

end Go.Proofs.Ytbnclikjbnfodaa

namespace Go.Proofs.Ytbnclikjbnfodaa
open Go.Ev
/- math/bits.Mul64 -/
def mul64 (x : Int) (y : Int) : (Int × Int) := ((addI .u64 (addI .u64 (mulI .u64 (shrI .u64 x 32) (shrI .u64 y 32)) (shrI .u64 (addI .u64 (mulI .u64 (shrI .u64 x 32) (andI .u64 y 4294967295)) (shrI .u64 (mulI .u64 (andI .u64 x 4294967295) (andI .u64 y 4294967295)) 32)) 32)) (shrI .u64 (addI .u64 (andI .u64 (addI .u64 (mulI .u64 (shrI .u64 x 32) (andI .u64 y 4294967295)) (shrI .u64 (mulI .u64 (andI .u64 x 4294967295) (andI .u64 y 4294967295)) 32)) 4294967295) (mulI .u64 (andI .u64 x 4294967295) (shrI .u64 y 32))) 32)), (mulI .u64 x y))
theorem mul64_t (x : Int) (y : Int) : awp Try.prog o27 noG 300 (body Try.f119) (ends Try.prog Try.f119 fun v _ => okV (V.tup [(V.int .u64 (mul64 x y).1), (V.int .u64 (mul64 x y).2)]) v) ⟨[(V.int .u64 x), (V.int .u64 y)] ++ List.replicate 49 V.un, []⟩ = ((V.tup [(V.int .u64 (mul64 x y).1), (V.int .u64 (mul64 x y).2)]).den z0 = (V.tup [(V.int .u64 (mul64 x y).1), (V.int .u64 (mul64 x y).2)]).den z0) := by kernel_rfl
theorem mul64_a (x : Int) (y : Int) : awp Try.prog o27 noG 300 (body Try.f119) (ends Try.prog Try.f119 fun v _ => okV (V.tup [(V.int .u64 (mul64 x y).1), (V.int .u64 (mul64 x y).2)]) v) ⟨[(V.int .u64 x), (V.int .u64 y)] ++ List.replicate 49 V.un, []⟩ := by rw [mul64_t]
def g119 : List V → Option (Bool × V) := fun | [.int .u64 x, .int .u64 y] => some (true, (V.tup [(V.int .u64 (mul64 x y).1), (V.int .u64 (mul64 x y).2)])) | _ => none
theorem mul64_p (x : Int) (y : Int) : (∀ μ μ', V.den μ' (V.tup [(V.int .u64 (mul64 x y).1), (V.int .u64 (mul64 x y).2)]) = V.den μ (V.tup [(V.int .u64 (mul64 x y).1), (V.int .u64 (mul64 x y).2)])) ∧ ∀ μ w, PureAt Try.prog 119 (([(V.int .u64 x), (V.int .u64 y)] : List V).map (V.den μ)).toArray (V.den μ (V.tup [(V.int .u64 (mul64 x y).1), (V.int .u64 (mul64 x y).2)])) w :=
  pure_ok (F := o27) (N := 300) (fn := Try.f119) (args := [(V.int .u64 x), (V.int .u64 y)]) (r := (V.tup [(V.int .u64 (mul64 x y).1), (V.int .u64 (mul64 x y).2)])) (n := 49) hM o27_ok (noG_ok _) Try.func119 (by kernel_rfl) (by kernel_rfl) (by kernel_rfl) (by kernel_rfl) (mul64_a x y) (by kernel_rfl)
theorem g119_ok (vs : List V) (v : V) (h : g119 vs = some (true, v)) : (∀ μ μ', v.den μ' = v.den μ) ∧ ∀ μ w, PureAt Try.prog 119 (vs.map (V.den μ)).toArray (v.den μ) w := by
  unfold g119 at h
  split at h
  · simp only [Option.some.injEq, Prod.mk.injEq, true_and] at h
    subst h
    exact mul64_p _ _
  · simp at h
def o119 : Orc := ext 119 g119 o27
theorem o119_ok : OrcOK Try.prog o119 := ext_ok o27_ok g119_ok

/- bits.Add64: the model's own entry -/
def aS (x y c : Int) : Int := (x + y + c) % 18446744073709551616
def aC (x y c : Int) : Int := (x + y + c) / 18446744073709551616
/-- The entry takes numbers that are not below 0, and a carry of 0 or 1. -/
def aOK (x y c : Int) : Bool := decide (0 ≤ x) && decide (0 ≤ y) && decide (0 ≤ c) && decide (c ≤ 1)
def g89 : List V → Option (Bool × V) := fun | [.int .u64 x, .int .u64 y, .int .u64 c] => some (aOK x y c, .tup [.int .u64 (aS x y c), .int .u64 (aC x y c)]) | _ => none
theorem g89_ok (vs : List V) (v : V) (h : g89 vs = some (true, v)) : (∀ μ μ', v.den μ' = v.den μ) ∧ ∀ μ w, PureAt Try.prog 89 (vs.map (V.den μ)).toArray (v.den μ) w := by
  unfold g89 at h
  split at h
  · rename_i x y c
    simp only [Option.some.injEq, Prod.mk.injEq] at h
    obtain ⟨h, rfl⟩ := h
    simp only [aOK, Bool.and_eq_true, decide_eq_true_eq] at h
    obtain ⟨⟨⟨h1, h2⟩, h3⟩, h4⟩ := h
    refine ⟨fun μ μ' => by simp [V.den, V.dens], fun μ w => .inl ?_⟩
    rw [run_callFunc_extern Try.func89 (by kernel_rfl) (by kernel_rfl) (by kernel_rfl) (e := add64Entry) (by kernel_rfl)]
    simp only [List.map_cons, List.map_nil, V.den, V.dens]
    rw [run_add64 x y c h1 h2 h3 h4]
    rfl
  · simp at h
def o89 : Orc := ext 89 g89 o119
theorem o89_ok : OrcOK Try.prog o89 := ext_ok o119_ok g89_ok
def l5 (a0 a1 a2 a3 a4 : Int) : Nat → Int := L [a0, a1, a2, a3, a4]
theorem reduceF_nf (x : Nat → Int) : reduceF (l5 (x 0) (x 1) (x 2) (x 3) (x 4)) = reduceF x := by
  have e : carryF (l5 (x 0) (x 1) (x 2) (x 3) (x 4)) = carryF x := by kernel_rfl
  unfold reduceF
  rw [e]
def g82n : List V → Option (Bool × V) := fun | [.ints .u64 5 x] => some (true, (V.ints .u64 5 (reduceF (l5 (x 0) (x 1) (x 2) (x 3) (x 4))))) | _ => none
theorem g82n_ok (vs : List V) (v : V) (h : g82n vs = some (true, v)) : (∀ μ μ', v.den μ' = v.den μ) ∧ ∀ μ w, PureAt Try.prog 82 (vs.map (V.den μ)).toArray (v.den μ) w := by
  unfold g82n at h
  split at h
  · simp only [Option.some.injEq, Prod.mk.injEq, true_and] at h
    subst h
    rw [reduceF_nf]
    exact reduceF_p _
  · simp at h
def o82n : Orc := ext 82 g82n o89
theorem o82n_ok : OrcOK Try.prog o82n := ext_ok o89_ok g82n_ok
/-- (*wide).add is gone through in place. -/
def G88 : GOrc := inl Try.prog o82n 300 88 Try.f88 noG
theorem G88_ok : GOrcOK Try.prog G88 := inl_ok hM o82n_ok (noG_ok _) Try.func88 (by kernel_rfl) (by kernel_rfl)
end Go.Proofs.Ytbnclikjbnfodaa

namespace Go.Proofs.Ytbnclikjbnfodaa
open Go.Ev
/-- A sum of products, one product more: the higher and the lower half. -/
def wadd (w : Int × Int) (a b : Int) : Int × Int := (aS w.1 (mul64 a b).1 (aC w.2 (mul64 a b).2 0), aS w.2 (mul64 a b).2 0)
/-- What a limb of the second comes to at a limb of the product. -/
def mB2 (b : Nat → Int) (k i : Nat) : Int := bif Nat.ble i k then b (k - i) else mulI .u64 19 (b (k + 5 - i))
/-- The sum at limb k, behind n limbs of the first. -/
def mW (a b : Nat → Int) (k : Nat) : Nat → Int × Int
  | 0 => (0, 0)
  | n + 1 => wadd (mW a b k n) (a n) (mB2 b k n)
/-- What goes over into limb k. -/
def mO (a b : Nat → Int) : Nat → Int
  | 0 => 0
  | k + 1 => orI .u64 (shlI .u64 (addI .u64 (mW a b k 5).1 (aC (mW a b k 5).2 (mO a b k) 0)) 13) (shrI .u64 (aS (mW a b k 5).2 (mO a b k) 0) 51)
def mL (a b : Nat → Int) (k : Nat) : Int := andI .u64 (aS (mW a b k 5).2 (mO a b k) 0) 2251799813685247
def mT (a b : Nat → Int) : Int × Int := wadd (0, 0) (mO a b 5) 19
def mP (a b : Nat → Int) : Nat → Int := reduceF (l5 (andI .u64 (aS (mT a b).2 (mL a b 0) 0) 2251799813685247) (addI .u64 (mL a b 1) (orI .u64 (shlI .u64 (addI .u64 (mT a b).1 (aC (mT a b).2 (mL a b 0) 0)) 13) (shrI .u64 (aS (mT a b).2 (mL a b 0) 0) 51))) (mL a b 2) (mL a b 3) (mL a b 4))
def mulF (x y : Nat → Int) : Nat → Int := mP (carryF x) (carryF y)
theorem and_nn (a b : Int) : 0 ≤ andI .u64 a b := by unfold andI bits2; rw [wrap_u64]; exact Int.emod_nonneg _ (by omega)
theorem or_nn (a b : Int) : 0 ≤ orI .u64 a b := by unfold orI bits2; rw [wrap_u64]; exact Int.emod_nonneg _ (by omega)
def WOK (w : Int × Int) : Prop := 0 ≤ w.1 ∧ 0 ≤ w.2 ∧ w.2 < 18446744073709551616
theorem w0_ok : WOK (0, 0) := ⟨by omega, by omega, by omega⟩
theorem mul64_ok (a b : Int) : WOK (mul64 a b) := by
  refine ⟨?_, ?_, ?_⟩
  · show 0 ≤ addI .u64 _ _
    rw [addU]; exact Int.emod_nonneg _ (by omega)
  · show 0 ≤ mulI .u64 _ _
    rw [mulU]; exact Int.emod_nonneg _ (by omega)
  · show mulI .u64 _ _ < _
    rw [mulU]; exact Int.emod_lt_of_pos _ (by omega)
theorem wadd_ok (w : Int × Int) {a b : Int} : WOK (wadd w a b) := by
  unfold WOK wadd aS
  dsimp only
  refine ⟨?_, ?_, ?_⟩ <;> omega
theorem mW_ok (a b : Nat → Int) (k n : Nat) : WOK (mW a b k n) := by
  cases n with
  | zero => exact w0_ok
  | succ n => exact wadd_ok _
theorem mO_nn (a b : Nat → Int) (k : Nat) : 0 ≤ mO a b k := by
  cases k with
  | zero => exact Int.le_refl _
  | succ k => exact or_nn _ _
theorem ook {x y : Int} (hx : 0 ≤ x) (hy : 0 ≤ y) : aOK x y 0 = true := by unfold aOK; simp; exact ⟨hx, hy⟩
theorem wok1 {w : Int × Int} {a b : Int} (h : WOK w) : aOK w.2 (mul64 a b).2 0 = true := ook h.2.1 (mul64_ok a b).2.1
theorem wok2 {w : Int × Int} {a b : Int} (h : WOK w) : aOK w.1 (mul64 a b).1 (aC w.2 (mul64 a b).2 0) = true := by
  obtain ⟨h1, h2, h3⟩ := h
  obtain ⟨m1, m2, m3⟩ := mul64_ok a b
  unfold aOK aC
  simp only [Bool.and_eq_true, decide_eq_true_eq]
  omega
attribute [local irreducible] mul64
theorem mulF_t (x y : Nat → Int) : awp Try.prog o82n G88 300 (body Try.f43) (ends Try.prog Try.f43 fun v _ => okV (V.ints .u64 5 (mulF x y)) v) ⟨[(V.ints .u64 5 x), (V.ints .u64 5 y)] ++ List.replicate 105 V.un, []⟩ = (gB (aOK (mW (carryF x) (carryF y) 0 0).2 (mul64 (carryF x 0) (mB2 (carryF y) 0 0)).2 0) (gB (aOK (mW (carryF x) (carryF y) 0 0).1 (mul64 (carryF x 0) (mB2 (carryF y) 0 0)).1 (aC (mW (carryF x) (carryF y) 0 0).2 (mul64 (carryF x 0) (mB2 (carryF y) 0 0)).2 0)) (gB (aOK (mW (carryF x) (carryF y) 1 0).2 (mul64 (carryF x 0) (mB2 (carryF y) 1 0)).2 0) (gB (aOK (mW (carryF x) (carryF y) 1 0).1 (mul64 (carryF x 0) (mB2 (carryF y) 1 0)).1 (aC (mW (carryF x) (carryF y) 1 0).2 (mul64 (carryF x 0) (mB2 (carryF y) 1 0)).2 0)) (gB (aOK (mW (carryF x) (carryF y) 2 0).2 (mul64 (carryF x 0) (mB2 (carryF y) 2 0)).2 0) (gB (aOK (mW (carryF x) (carryF y) 2 0).1 (mul64 (carryF x 0) (mB2 (carryF y) 2 0)).1 (aC (mW (carryF x) (carryF y) 2 0).2 (mul64 (carryF x 0) (mB2 (carryF y) 2 0)).2 0)) (gB (aOK (mW (carryF x) (carryF y) 3 0).2 (mul64 (carryF x 0) (mB2 (carryF y) 3 0)).2 0) (gB (aOK (mW (carryF x) (carryF y) 3 0).1 (mul64 (carryF x 0) (mB2 (carryF y) 3 0)).1 (aC (mW (carryF x) (carryF y) 3 0).2 (mul64 (carryF x 0) (mB2 (carryF y) 3 0)).2 0)) (gB (aOK (mW (carryF x) (carryF y) 4 0).2 (mul64 (carryF x 0) (mB2 (carryF y) 4 0)).2 0) (gB (aOK (mW (carryF x) (carryF y) 4 0).1 (mul64 (carryF x 0) (mB2 (carryF y) 4 0)).1 (aC (mW (carryF x) (carryF y) 4 0).2 (mul64 (carryF x 0) (mB2 (carryF y) 4 0)).2 0)) (gB (aOK (mW (carryF x) (carryF y) 1 1).2 (mul64 (carryF x 1) (mB2 (carryF y) 1 1)).2 0) (gB (aOK (mW (carryF x) (carryF y) 1 1).1 (mul64 (carryF x 1) (mB2 (carryF y) 1 1)).1 (aC (mW (carryF x) (carryF y) 1 1).2 (mul64 (carryF x 1) (mB2 (carryF y) 1 1)).2 0)) (gB (aOK (mW (carryF x) (carryF y) 2 1).2 (mul64 (carryF x 1) (mB2 (carryF y) 2 1)).2 0) (gB (aOK (mW (carryF x) (carryF y) 2 1).1 (mul64 (carryF x 1) (mB2 (carryF y) 2 1)).1 (aC (mW (carryF x) (carryF y) 2 1).2 (mul64 (carryF x 1) (mB2 (carryF y) 2 1)).2 0)) (gB (aOK (mW (carryF x) (carryF y) 3 1).2 (mul64 (carryF x 1) (mB2 (carryF y) 3 1)).2 0) (gB (aOK (mW (carryF x) (carryF y) 3 1).1 (mul64 (carryF x 1) (mB2 (carryF y) 3 1)).1 (aC (mW (carryF x) (carryF y) 3 1).2 (mul64 (carryF x 1) (mB2 (carryF y) 3 1)).2 0)) (gB (aOK (mW (carryF x) (carryF y) 4 1).2 (mul64 (carryF x 1) (mB2 (carryF y) 4 1)).2 0) (gB (aOK (mW (carryF x) (carryF y) 4 1).1 (mul64 (carryF x 1) (mB2 (carryF y) 4 1)).1 (aC (mW (carryF x) (carryF y) 4 1).2 (mul64 (carryF x 1) (mB2 (carryF y) 4 1)).2 0)) (gB (aOK (mW (carryF x) (carryF y) 0 1).2 (mul64 (carryF x 1) (mB2 (carryF y) 0 1)).2 0) (gB (aOK (mW (carryF x) (carryF y) 0 1).1 (mul64 (carryF x 1) (mB2 (carryF y) 0 1)).1 (aC (mW (carryF x) (carryF y) 0 1).2 (mul64 (carryF x 1) (mB2 (carryF y) 0 1)).2 0)) (gB (aOK (mW (carryF x) (carryF y) 2 2).2 (mul64 (carryF x 2) (mB2 (carryF y) 2 2)).2 0) (gB (aOK (mW (carryF x) (carryF y) 2 2).1 (mul64 (carryF x 2) (mB2 (carryF y) 2 2)).1 (aC (mW (carryF x) (carryF y) 2 2).2 (mul64 (carryF x 2) (mB2 (carryF y) 2 2)).2 0)) (gB (aOK (mW (carryF x) (carryF y) 3 2).2 (mul64 (carryF x 2) (mB2 (carryF y) 3 2)).2 0) (gB (aOK (mW (carryF x) (carryF y) 3 2).1 (mul64 (carryF x 2) (mB2 (carryF y) 3 2)).1 (aC (mW (carryF x) (carryF y) 3 2).2 (mul64 (carryF x 2) (mB2 (carryF y) 3 2)).2 0)) (gB (aOK (mW (carryF x) (carryF y) 4 2).2 (mul64 (carryF x 2) (mB2 (carryF y) 4 2)).2 0) (gB (aOK (mW (carryF x) (carryF y) 4 2).1 (mul64 (carryF x 2) (mB2 (carryF y) 4 2)).1 (aC (mW (carryF x) (carryF y) 4 2).2 (mul64 (carryF x 2) (mB2 (carryF y) 4 2)).2 0)) (gB (aOK (mW (carryF x) (carryF y) 0 2).2 (mul64 (carryF x 2) (mB2 (carryF y) 0 2)).2 0) (gB (aOK (mW (carryF x) (carryF y) 0 2).1 (mul64 (carryF x 2) (mB2 (carryF y) 0 2)).1 (aC (mW (carryF x) (carryF y) 0 2).2 (mul64 (carryF x 2) (mB2 (carryF y) 0 2)).2 0)) (gB (aOK (mW (carryF x) (carryF y) 1 2).2 (mul64 (carryF x 2) (mB2 (carryF y) 1 2)).2 0) (gB (aOK (mW (carryF x) (carryF y) 1 2).1 (mul64 (carryF x 2) (mB2 (carryF y) 1 2)).1 (aC (mW (carryF x) (carryF y) 1 2).2 (mul64 (carryF x 2) (mB2 (carryF y) 1 2)).2 0)) (gB (aOK (mW (carryF x) (carryF y) 3 3).2 (mul64 (carryF x 3) (mB2 (carryF y) 3 3)).2 0) (gB (aOK (mW (carryF x) (carryF y) 3 3).1 (mul64 (carryF x 3) (mB2 (carryF y) 3 3)).1 (aC (mW (carryF x) (carryF y) 3 3).2 (mul64 (carryF x 3) (mB2 (carryF y) 3 3)).2 0)) (gB (aOK (mW (carryF x) (carryF y) 4 3).2 (mul64 (carryF x 3) (mB2 (carryF y) 4 3)).2 0) (gB (aOK (mW (carryF x) (carryF y) 4 3).1 (mul64 (carryF x 3) (mB2 (carryF y) 4 3)).1 (aC (mW (carryF x) (carryF y) 4 3).2 (mul64 (carryF x 3) (mB2 (carryF y) 4 3)).2 0)) (gB (aOK (mW (carryF x) (carryF y) 0 3).2 (mul64 (carryF x 3) (mB2 (carryF y) 0 3)).2 0) (gB (aOK (mW (carryF x) (carryF y) 0 3).1 (mul64 (carryF x 3) (mB2 (carryF y) 0 3)).1 (aC (mW (carryF x) (carryF y) 0 3).2 (mul64 (carryF x 3) (mB2 (carryF y) 0 3)).2 0)) (gB (aOK (mW (carryF x) (carryF y) 1 3).2 (mul64 (carryF x 3) (mB2 (carryF y) 1 3)).2 0) (gB (aOK (mW (carryF x) (carryF y) 1 3).1 (mul64 (carryF x 3) (mB2 (carryF y) 1 3)).1 (aC (mW (carryF x) (carryF y) 1 3).2 (mul64 (carryF x 3) (mB2 (carryF y) 1 3)).2 0)) (gB (aOK (mW (carryF x) (carryF y) 2 3).2 (mul64 (carryF x 3) (mB2 (carryF y) 2 3)).2 0) (gB (aOK (mW (carryF x) (carryF y) 2 3).1 (mul64 (carryF x 3) (mB2 (carryF y) 2 3)).1 (aC (mW (carryF x) (carryF y) 2 3).2 (mul64 (carryF x 3) (mB2 (carryF y) 2 3)).2 0)) (gB (aOK (mW (carryF x) (carryF y) 4 4).2 (mul64 (carryF x 4) (mB2 (carryF y) 4 4)).2 0) (gB (aOK (mW (carryF x) (carryF y) 4 4).1 (mul64 (carryF x 4) (mB2 (carryF y) 4 4)).1 (aC (mW (carryF x) (carryF y) 4 4).2 (mul64 (carryF x 4) (mB2 (carryF y) 4 4)).2 0)) (gB (aOK (mW (carryF x) (carryF y) 0 4).2 (mul64 (carryF x 4) (mB2 (carryF y) 0 4)).2 0) (gB (aOK (mW (carryF x) (carryF y) 0 4).1 (mul64 (carryF x 4) (mB2 (carryF y) 0 4)).1 (aC (mW (carryF x) (carryF y) 0 4).2 (mul64 (carryF x 4) (mB2 (carryF y) 0 4)).2 0)) (gB (aOK (mW (carryF x) (carryF y) 1 4).2 (mul64 (carryF x 4) (mB2 (carryF y) 1 4)).2 0) (gB (aOK (mW (carryF x) (carryF y) 1 4).1 (mul64 (carryF x 4) (mB2 (carryF y) 1 4)).1 (aC (mW (carryF x) (carryF y) 1 4).2 (mul64 (carryF x 4) (mB2 (carryF y) 1 4)).2 0)) (gB (aOK (mW (carryF x) (carryF y) 2 4).2 (mul64 (carryF x 4) (mB2 (carryF y) 2 4)).2 0) (gB (aOK (mW (carryF x) (carryF y) 2 4).1 (mul64 (carryF x 4) (mB2 (carryF y) 2 4)).1 (aC (mW (carryF x) (carryF y) 2 4).2 (mul64 (carryF x 4) (mB2 (carryF y) 2 4)).2 0)) (gB (aOK (mW (carryF x) (carryF y) 3 4).2 (mul64 (carryF x 4) (mB2 (carryF y) 3 4)).2 0) (gB (aOK (mW (carryF x) (carryF y) 3 4).1 (mul64 (carryF x 4) (mB2 (carryF y) 3 4)).1 (aC (mW (carryF x) (carryF y) 3 4).2 (mul64 (carryF x 4) (mB2 (carryF y) 3 4)).2 0)) (gB (aOK (mW (carryF x) (carryF y) 0 5).2 (mO (carryF x) (carryF y) 0) 0) (gB (aOK (mW (carryF x) (carryF y) 1 5).2 (mO (carryF x) (carryF y) 1) 0) (gB (aOK (mW (carryF x) (carryF y) 2 5).2 (mO (carryF x) (carryF y) 2) 0) (gB (aOK (mW (carryF x) (carryF y) 3 5).2 (mO (carryF x) (carryF y) 3) 0) (gB (aOK (mW (carryF x) (carryF y) 4 5).2 (mO (carryF x) (carryF y) 4) 0) (gB (aOK ((0, 0) : Int × Int).2 (mul64 (mO (carryF x) (carryF y) 5) 19).2 0) (gB (aOK ((0, 0) : Int × Int).1 (mul64 (mO (carryF x) (carryF y) 5) 19).1 (aC ((0, 0) : Int × Int).2 (mul64 (mO (carryF x) (carryF y) 5) 19).2 0)) (gB (aOK (mT (carryF x) (carryF y)).2 (mL (carryF x) (carryF y) 0) 0) ((V.ints .u64 5 (mulF x y)).den z0 = (V.ints .u64 5 (mulF x y)).den z0))))))))))))))))))))))))))))))))))))))))))))))))))))))))))) := by kernel_rfl
theorem mulF_a (x y : Nat → Int) : awp Try.prog o82n G88 300 (body Try.f43) (ends Try.prog Try.f43 fun v _ => okV (V.ints .u64 5 (mulF x y)) v) ⟨[(V.ints .u64 5 x), (V.ints .u64 5 y)] ++ List.replicate 105 V.un, []⟩ := by
  rw [mulF_t]
  refine gm (wok1 (mW_ok _ _ _ _)) ?_
  refine gm (wok2 (mW_ok _ _ _ _)) ?_
  refine gm (wok1 (mW_ok _ _ _ _)) ?_
  refine gm (wok2 (mW_ok _ _ _ _)) ?_
  refine gm (wok1 (mW_ok _ _ _ _)) ?_
  refine gm (wok2 (mW_ok _ _ _ _)) ?_
  refine gm (wok1 (mW_ok _ _ _ _)) ?_
  refine gm (wok2 (mW_ok _ _ _ _)) ?_
  refine gm (wok1 (mW_ok _ _ _ _)) ?_
  refine gm (wok2 (mW_ok _ _ _ _)) ?_
  refine gm (wok1 (mW_ok _ _ _ _)) ?_
  refine gm (wok2 (mW_ok _ _ _ _)) ?_
  refine gm (wok1 (mW_ok _ _ _ _)) ?_
  refine gm (wok2 (mW_ok _ _ _ _)) ?_
  refine gm (wok1 (mW_ok _ _ _ _)) ?_
  refine gm (wok2 (mW_ok _ _ _ _)) ?_
  refine gm (wok1 (mW_ok _ _ _ _)) ?_
  refine gm (wok2 (mW_ok _ _ _ _)) ?_
  refine gm (wok1 (mW_ok _ _ _ _)) ?_
  refine gm (wok2 (mW_ok _ _ _ _)) ?_
  refine gm (wok1 (mW_ok _ _ _ _)) ?_
  refine gm (wok2 (mW_ok _ _ _ _)) ?_
  refine gm (wok1 (mW_ok _ _ _ _)) ?_
  refine gm (wok2 (mW_ok _ _ _ _)) ?_
  refine gm (wok1 (mW_ok _ _ _ _)) ?_
  refine gm (wok2 (mW_ok _ _ _ _)) ?_
  refine gm (wok1 (mW_ok _ _ _ _)) ?_
  refine gm (wok2 (mW_ok _ _ _ _)) ?_
  refine gm (wok1 (mW_ok _ _ _ _)) ?_
  refine gm (wok2 (mW_ok _ _ _ _)) ?_
  refine gm (wok1 (mW_ok _ _ _ _)) ?_
  refine gm (wok2 (mW_ok _ _ _ _)) ?_
  refine gm (wok1 (mW_ok _ _ _ _)) ?_
  refine gm (wok2 (mW_ok _ _ _ _)) ?_
  refine gm (wok1 (mW_ok _ _ _ _)) ?_
  refine gm (wok2 (mW_ok _ _ _ _)) ?_
  refine gm (wok1 (mW_ok _ _ _ _)) ?_
  refine gm (wok2 (mW_ok _ _ _ _)) ?_
  refine gm (wok1 (mW_ok _ _ _ _)) ?_
  refine gm (wok2 (mW_ok _ _ _ _)) ?_
  refine gm (wok1 (mW_ok _ _ _ _)) ?_
  refine gm (wok2 (mW_ok _ _ _ _)) ?_
  refine gm (wok1 (mW_ok _ _ _ _)) ?_
  refine gm (wok2 (mW_ok _ _ _ _)) ?_
  refine gm (wok1 (mW_ok _ _ _ _)) ?_
  refine gm (wok2 (mW_ok _ _ _ _)) ?_
  refine gm (wok1 (mW_ok _ _ _ _)) ?_
  refine gm (wok2 (mW_ok _ _ _ _)) ?_
  refine gm (wok1 (mW_ok _ _ _ _)) ?_
  refine gm (wok2 (mW_ok _ _ _ _)) ?_
  refine gm (ook (mW_ok _ _ _ _).2.1 (mO_nn _ _ _)) ?_
  refine gm (ook (mW_ok _ _ _ _).2.1 (mO_nn _ _ _)) ?_
  refine gm (ook (mW_ok _ _ _ _).2.1 (mO_nn _ _ _)) ?_
  refine gm (ook (mW_ok _ _ _ _).2.1 (mO_nn _ _ _)) ?_
  refine gm (ook (mW_ok _ _ _ _).2.1 (mO_nn _ _ _)) ?_
  refine gm (wok1 w0_ok) ?_
  refine gm (wok2 w0_ok) ?_
  refine gm (ook (wadd_ok _).2.1 (and_nn _ _)) ?_
  rfl
def g43 : List V → Option (Bool × V) := fun | [.ints .u64 5 x, .ints .u64 5 y] => some (true, (V.ints .u64 5 (mulF x y))) | _ => none
theorem mulF_p (x : (Nat → Int)) (y : (Nat → Int)) : (∀ μ μ', V.den μ' (V.ints .u64 5 (mulF x y)) = V.den μ (V.ints .u64 5 (mulF x y))) ∧ ∀ μ w, PureAt Try.prog 43 (([(V.ints .u64 5 x), (V.ints .u64 5 y)] : List V).map (V.den μ)).toArray (V.den μ (V.ints .u64 5 (mulF x y))) w :=
  pure_ok (F := o82n) (N := 300) (fn := Try.f43) (args := [(V.ints .u64 5 x), (V.ints .u64 5 y)]) (r := (V.ints .u64 5 (mulF x y))) (n := 105) hM o82n_ok G88_ok Try.func43 (by kernel_rfl) (by kernel_rfl) (by kernel_rfl) (by kernel_rfl) (mulF_a x y) (by kernel_rfl)
theorem g43_ok (vs : List V) (v : V) (h : g43 vs = some (true, v)) : (∀ μ μ', v.den μ' = v.den μ) ∧ ∀ μ w, PureAt Try.prog 43 (vs.map (V.den μ)).toArray (v.den μ) w := by
  unfold g43 at h
  split at h
  · simp only [Option.some.injEq, Prod.mk.injEq, true_and] at h
    subst h
    exact mulF_p _ _
  · simp at h
def o43 : Orc := ext 43 g43 o82n
theorem o43_ok : OrcOK Try.prog o43 := ext_ok o82n_ok g43_ok
end Go.Proofs.Ytbnclikjbnfodaa

namespace Go.Proofs.Ytbnclikjbnfodaa
open Go.Ev
/- field.Square -/
def squareF (x : (Nat → Int)) : (Nat → Int) := (mulF x x)
theorem squareF_t (x : (Nat → Int)) : awp Try.prog o43 noG 300 (body Try.f45) (ends Try.prog Try.f45 fun v _ => okV (V.ints .u64 5 (squareF x)) v) ⟨[(V.ints .u64 5 x)] ++ List.replicate 5 V.un, []⟩ = ((V.ints .u64 5 (squareF x)).den z0 = (V.ints .u64 5 (squareF x)).den z0) := by kernel_rfl
theorem squareF_a (x : (Nat → Int)) : awp Try.prog o43 noG 300 (body Try.f45) (ends Try.prog Try.f45 fun v _ => okV (V.ints .u64 5 (squareF x)) v) ⟨[(V.ints .u64 5 x)] ++ List.replicate 5 V.un, []⟩ := by rw [squareF_t]
def g45 : List V → Option (Bool × V) := fun | [.ints .u64 5 x] => some (true, (V.ints .u64 5 (squareF x))) | _ => none
theorem squareF_p (x : (Nat → Int)) : (∀ μ μ', V.den μ' (V.ints .u64 5 (squareF x)) = V.den μ (V.ints .u64 5 (squareF x))) ∧ ∀ μ w, PureAt Try.prog 45 (([(V.ints .u64 5 x)] : List V).map (V.den μ)).toArray (V.den μ (V.ints .u64 5 (squareF x))) w :=
  pure_ok (F := o43) (N := 300) (fn := Try.f45) (args := [(V.ints .u64 5 x)]) (r := (V.ints .u64 5 (squareF x))) (n := 5) hM o43_ok (noG_ok _) Try.func45 (by kernel_rfl) (by kernel_rfl) (by kernel_rfl) (by kernel_rfl) (squareF_a x) (by kernel_rfl)
theorem g45_ok (vs : List V) (v : V) (h : g45 vs = some (true, v)) : (∀ μ μ', v.den μ' = v.den μ) ∧ ∀ μ w, PureAt Try.prog 45 (vs.map (V.den μ)).toArray (v.den μ) w := by
  unfold g45 at h
  split at h
  · simp only [Option.some.injEq, Prod.mk.injEq, true_and] at h
    subst h
    exact squareF_p _
  · simp at h
def o45 : Orc := ext 45 g45 o43
theorem o45_ok : OrcOK Try.prog o45 := ext_ok o43_ok g45_ok

/- fareboxlaw05.FieldProducts -/
def lawProducts (x : (Nat → Int)) (y : (Nat → Int)) : Bool := (cond (isE (mulF x y) (rMul (rOf x) (rOf y))) (isE (squareF x) (rMul (rOf x) (rOf x))) false)
theorem lawProducts_t (x : (Nat → Int)) (y : (Nat → Int)) : awp Try.prog o45 noG 300 (body Try.f6) (ends Try.prog Try.f6 fun v _ => okV (V.bool (lawProducts x y)) v) ⟨[(V.ints .u64 5 x), (V.ints .u64 5 y)] ++ List.replicate 24 V.un, []⟩ = (mB (isE (mulF x y) (rMul (rOf x) (rOf y))) ((V.bool (isE (squareF x) (rMul (rOf x) (rOf x)))).den z0 = (V.bool (lawProducts x y)).den z0) ((V.bool false).den z0 = (V.bool (lawProducts x y)).den z0)) := by kernel_rfl
theorem lawProducts_a (x : (Nat → Int)) (y : (Nat → Int)) : awp Try.prog o45 noG 300 (body Try.f6) (ends Try.prog Try.f6 fun v _ => okV (V.bool (lawProducts x y)) v) ⟨[(V.ints .u64 5 x), (V.ints .u64 5 y)] ++ List.replicate 24 V.un, []⟩ := by
  rw [lawProducts_t]
  refine mBt (fun h1 => ?_) (fun h1 => ?_)
  · simp only [lawProducts, h1, cond_true]
  · simp only [lawProducts, h1, cond_false]
def g6 : List V → Option (Bool × V) := fun | [.ints .u64 5 x, .ints .u64 5 y] => some (true, (V.bool (lawProducts x y))) | _ => none
theorem lawProducts_p (x : (Nat → Int)) (y : (Nat → Int)) : (∀ μ μ', V.den μ' (V.bool (lawProducts x y)) = V.den μ (V.bool (lawProducts x y))) ∧ ∀ μ w, PureAt Try.prog 6 (([(V.ints .u64 5 x), (V.ints .u64 5 y)] : List V).map (V.den μ)).toArray (V.den μ (V.bool (lawProducts x y))) w :=
  pure_ok (F := o45) (N := 300) (fn := Try.f6) (args := [(V.ints .u64 5 x), (V.ints .u64 5 y)]) (r := (V.bool (lawProducts x y))) (n := 24) hM o45_ok (noG_ok _) Try.func6 (by kernel_rfl) (by kernel_rfl) (by kernel_rfl) (by kernel_rfl) (lawProducts_a x y) (by kernel_rfl)
theorem g6_ok (vs : List V) (v : V) (h : g6 vs = some (true, v)) : (∀ μ μ', v.den μ' = v.den μ) ∧ ∀ μ w, PureAt Try.prog 6 (vs.map (V.den μ)).toArray (v.den μ) w := by
  unfold g6 at h
  split at h
  · simp only [Option.some.injEq, Prod.mk.injEq, true_and] at h
    subst h
    exact lawProducts_p _ _
  · simp at h
def o6 : Orc := ext 6 g6 o45
theorem o6_ok : OrcOK Try.prog o6 := ext_ok o45_ok g6_ok
end Go.Proofs.Ytbnclikjbnfodaa

/-
  The program's product as a number. Conditions: none.
-/
namespace Go.Proofs.Ytbnclikjbnfodaa
open Go.Ev Go.Num

theorem and32 (a : Int) : andI .u64 a 4294967295 = a % 4294967296 := and_mask a 32 (by omega)
theorem shr32 (a : Int) : shrI .u64 a 32 = a / 4294967296 := shrU a 32 (by omega)
theorem or_comm' (a b : Int) : orI .u64 a b = orI .u64 b a := by unfold orI bits2; dsimp only; rw [BitVec.or_comm]
theorem mul_le' {a b A B : Int} (ha : 0 ≤ a) (hb : 0 ≤ b) (hA : a ≤ A) (hB : b ≤ B) : 0 ≤ a * b ∧ a * b ≤ A * B :=
  ⟨Int.mul_nonneg ha hb, Int.mul_le_mul hA hB hb (by omega)⟩

def U1 (a : Int) : Prop := 0 ≤ a ∧ a < 18446744073709551616
theorem mul64_v {a b : Int} (ha : U1 a) (hb : U1 b) : (mul64 a b).1 * 18446744073709551616 + (mul64 a b).2 = a * b ∧ U1 (mul64 a b).1 ∧ U1 (mul64 a b).2 := by
  obtain ⟨a0, a1⟩ := ha; obtain ⟨b0, b1⟩ := hb
  have e : a * b = (a % 4294967296) * (b % 4294967296) + 4294967296 * ((a / 4294967296) * (b % 4294967296) + (a % 4294967296) * (b / 4294967296)) + 18446744073709551616 * ((a / 4294967296) * (b / 4294967296)) := by
    have h1 : a = a % 4294967296 + 4294967296 * (a / 4294967296) := by omega
    have h2 : b = b % 4294967296 + 4294967296 * (b / 4294967296) := by omega
    generalize a % 4294967296 = x0 at *
    generalize a / 4294967296 = x1 at *
    generalize b % 4294967296 = y0 at *
    generalize b / 4294967296 = y1 at *
    subst h1 h2
    grind
  have m00 := mul_le' (a := a % 4294967296) (b := b % 4294967296) (A := 4294967295) (B := 4294967295) (by omega) (by omega) (by omega) (by omega)
  have m10 := mul_le' (a := a / 4294967296) (b := b % 4294967296) (A := 4294967295) (B := 4294967295) (by omega) (by omega) (by omega) (by omega)
  have m01 := mul_le' (a := a % 4294967296) (b := b / 4294967296) (A := 4294967295) (B := 4294967295) (by omega) (by omega) (by omega) (by omega)
  have m11 := mul_le' (a := a / 4294967296) (b := b / 4294967296) (A := 4294967295) (B := 4294967295) (by omega) (by omega) (by omega) (by omega)
  simp only [mul64, addU, mulU, and32, shr32]
  rw [e]
  generalize (a % 4294967296) * (b % 4294967296) = p00 at *
  generalize (a / 4294967296) * (b % 4294967296) = p10 at *
  generalize (a % 4294967296) * (b / 4294967296) = p01 at *
  generalize (a / 4294967296) * (b / 4294967296) = p11 at *
  clear e a0 a1 b0 b1
  rw [sm p00 (by omega) (by omega), sm p10 (by omega) (by omega), sm p01 (by omega) (by omega), sm p11 (by omega) (by omega)]
  rw [sm (p10 + p00 / 4294967296) (by omega) (by omega), sm (p11 + _) (by omega) (by omega), sm ((p10 + p00 / 4294967296) % 4294967296 + p01) (by omega) (by omega), sm (p11 + _ + _) (by omega) (by omega)]
  unfold U1
  refine ⟨?_, ⟨?_, ?_⟩, ⟨?_, ?_⟩⟩ <;> omega

/-- What a pair of halves comes to. -/
def wv (w : Int × Int) : Int := w.1 * 18446744073709551616 + w.2
theorem wadd_v {w : Int × Int} {a b : Int} (hw : WOK w) (ha : U1 a) (hb : U1 b) (h : wv w + a * b < 340282366920938463463374607431768211456) : wv (wadd w a b) = wv w + a * b := by
  obtain ⟨e, ⟨h1, h2⟩, h3, h4⟩ := mul64_v ha hb
  obtain ⟨w1, w2, w3⟩ := hw
  unfold wv at *
  unfold wadd aS aC
  dsimp only
  rw [← e] at h ⊢
  generalize (mul64 a b).1 = hi at *
  generalize (mul64 a b).2 = lo at *
  omega

/-- The exact sum. -/
def sW (a b : Nat → Int) (k : Nat) : Nat → Int
  | 0 => 0
  | n + 1 => sW a b k n + a n * mB2 b k n
def C5 (x : Nat → Int) : Prop := ∀ j, j < 5 → 0 ≤ x j ∧ x j ≤ 4503599627370496
theorem mB2_v {b : Nat → Int} (hb : C5 b) {k i : Nat} (hk : k < 5) (hi : i < 5) : mB2 b k i = (if i ≤ k then b (k - i) else 19 * b (k + 5 - i)) ∧ 0 ≤ mB2 b k i ∧ mB2 b k i ≤ 144115188075855872 := by
  unfold mB2
  by_cases h : i ≤ k
  · rw [if_pos h, (bleT (a := i) (b := k)).2 h, cond_true]
    have := hb (k - i) (by omega)
    omega
  · rw [if_neg h, ff bleT h, cond_false, mulU]
    have := hb (k + 5 - i) (by omega)
    rw [sm _ (by omega) (by omega)]
    omega
theorem mW_v {a b : Nat → Int} (ha : C5 a) (hb : C5 b) {k : Nat} (hk : k < 5) : ∀ n, n ≤ 5 → wv (mW a b k n) = sW a b k n ∧ 0 ≤ sW a b k n ∧ sW a b k n ≤ n * 649037107316853453566312041152512
  | 0, _ => ⟨rfl, by simp [sW], by simp [sW]⟩
  | n + 1, hn => by
    obtain ⟨i1, i2, i3⟩ := mW_v ha hb hk n (by omega)
    obtain ⟨b1, b2, b3⟩ := mB2_v hb hk (show n < 5 by omega)
    have ha := ha n (by omega)
    have hm := mul_le' ha.1 b2 ha.2 b3
    simp only [mW, sW]
    have hle : sW a b k n + a n * mB2 b k n ≤ (n + 1 : Nat) * 649037107316853453566312041152512 := by push_cast; omega
    have hlt : ((n + 1 : Nat) : Int) ≤ 5 := by omega
    rw [wadd_v (mW_ok a b k n) ⟨ha.1, by omega⟩ ⟨b2, by omega⟩ (by rw [i1]; omega), i1]
    exact ⟨rfl, by omega, hle⟩

/-- What goes over into limb k, exactly. -/
def sO (a b : Nat → Int) : Nat → Int
  | 0 => 0
  | k + 1 => (sW a b k 5 + sO a b k) / 2251799813685248

theorem halves {w : Int × Int} (hw : WOK w) {o : Int} (ho : 0 ≤ o ∧ o < 4611686018427387904) (h : wv w < 5192296858534827628530496329220096) :
    orI .u64 (shlI .u64 (addI .u64 w.1 (aC w.2 o 0)) 13) (shrI .u64 (aS w.2 o 0) 51) = (wv w + o) / 2251799813685248 := by
  obtain ⟨w1, w2, w3⟩ := hw
  unfold wv at *
  unfold aC aS
  have hc : 0 ≤ (w.2 + o + 0) / 18446744073709551616 ∧ (w.2 + o + 0) / 18446744073709551616 ≤ 1 := by omega
  have hs := Int.emod_nonneg (w.2 + o + 0) (show (18446744073709551616 : Int) ≠ 0 by omega)
  have hs2 := Int.emod_lt_of_pos (w.2 + o + 0) (show (0 : Int) < 18446744073709551616 by omega)
  rw [addU, sm (w.1 + _) (by omega) (by omega), shr51]
  rw [show shlI .u64 (w.1 + (w.2 + o + 0) / 18446744073709551616) 13 = ((w.1 + (w.2 + o + 0) / 18446744073709551616) * 8192) % 18446744073709551616 from shlU _ 13 (by omega)]
  rw [sm (_ * 8192) (by omega) (by omega), or_comm']
  rw [show ((w.1 + (w.2 + o + 0) / 18446744073709551616) * 8192 : Int) = (w.1 + (w.2 + o + 0) / 18446744073709551616) * 2 ^ 13 from rfl, or_add 13 (by omega) (by show _ / _ < (8192 : Int); omega) (by omega) (by show _ + _ * (8192 : Int) < _; omega)]
  show _ + _ * (8192 : Int) = _
  omega

theorem mO_v {a b : Nat → Int} (ha : C5 a) (hb : C5 b) : ∀ k, k ≤ 5 → mO a b k = sO a b k ∧ 0 ≤ sO a b k ∧ sO a b k ≤ 1441151880758560000
  | 0, _ => ⟨rfl, by simp [sO], by simp [sO]⟩
  | k + 1, hk => by
    obtain ⟨i1, i2, i3⟩ := mO_v ha hb k (by omega)
    obtain ⟨w1, w2, w3⟩ := mW_v ha hb (show k < 5 by omega) 5 (by omega)
    have h := halves (mW_ok a b k 5) (o := mO a b k) (by omega) (by rw [w1]; omega)
    rw [w1, i1] at h
    refine ⟨?_, ?_, ?_⟩
    · show orI .u64 _ _ = _
      rw [i1]; exact h
    · show 0 ≤ (_ / _ : Int); omega
    · show (_ / _ : Int) ≤ _; omega
theorem low_v {w : Int × Int} {o : Int} : andI .u64 (aS w.2 o 0) 2251799813685247 = (wv w + o) % 2251799813685248 := by
  rw [and51]; unfold aS wv; omega
theorem mL_v {a b : Nat → Int} (ha : C5 a) (hb : C5 b) {k : Nat} (hk : k < 5) : mL a b k = (sW a b k 5 + sO a b k) % 2251799813685248 := by
  obtain ⟨w1, w2, w3⟩ := mW_v ha hb hk 5 (by omega)
  obtain ⟨i1, i2, i3⟩ := mO_v ha hb k (by omega)
  unfold mL
  rw [low_v, w1, i1]

theorem sums_v {a b : Nat → Int} (hb : C5 b) : ∃ q, sW a b 0 5 + 2251799813685248 * (sW a b 1 5 + 2251799813685248 * (sW a b 2 5 + 2251799813685248 * (sW a b 3 5 + 2251799813685248 * sW a b 4 5))) = v5 a * v5 b - p * q := by
  have e := fun k hk i hi => (mB2_v hb (k := k) (i := i) hk hi).1
  refine ⟨(a 1 * b 4 + a 2 * b 3 + a 3 * b 2 + a 4 * b 1) + 2251799813685248 * ((a 2 * b 4 + a 3 * b 3 + a 4 * b 2) + 2251799813685248 * ((a 3 * b 4 + a 4 * b 3) + 2251799813685248 * (a 4 * b 4))), ?_⟩
  simp only [sW]
  rw [e 0 (by omega) 0 (by omega), e 0 (by omega) 1 (by omega), e 0 (by omega) 2 (by omega), e 0 (by omega) 3 (by omega), e 0 (by omega) 4 (by omega)]
  rw [e 1 (by omega) 0 (by omega), e 1 (by omega) 1 (by omega), e 1 (by omega) 2 (by omega), e 1 (by omega) 3 (by omega), e 1 (by omega) 4 (by omega)]
  rw [e 2 (by omega) 0 (by omega), e 2 (by omega) 1 (by omega), e 2 (by omega) 2 (by omega), e 2 (by omega) 3 (by omega), e 2 (by omega) 4 (by omega)]
  rw [e 3 (by omega) 0 (by omega), e 3 (by omega) 1 (by omega), e 3 (by omega) 2 (by omega), e 3 (by omega) 3 (by omega), e 3 (by omega) 4 (by omega)]
  rw [e 4 (by omega) 0 (by omega), e 4 (by omega) 1 (by omega), e 4 (by omega) 2 (by omega), e 4 (by omega) 3 (by omega), e 4 (by omega) 4 (by omega)]
  simp only [show (0 : Nat) ≤ 0 from by omega, show ¬ (1 : Nat) ≤ 0 from by omega, show ¬ (2 : Nat) ≤ 0 from by omega, show ¬ (3 : Nat) ≤ 0 from by omega, show ¬ (4 : Nat) ≤ 0 from by omega, show (0 : Nat) ≤ 1 from by omega, show (1 : Nat) ≤ 1 from by omega, show ¬ (2 : Nat) ≤ 1 from by omega, show ¬ (3 : Nat) ≤ 1 from by omega, show ¬ (4 : Nat) ≤ 1 from by omega, show (0 : Nat) ≤ 2 from by omega, show (1 : Nat) ≤ 2 from by omega, show (2 : Nat) ≤ 2 from by omega, show ¬ (3 : Nat) ≤ 2 from by omega, show ¬ (4 : Nat) ≤ 2 from by omega, show (0 : Nat) ≤ 3 from by omega, show (1 : Nat) ≤ 3 from by omega, show (2 : Nat) ≤ 3 from by omega, show (3 : Nat) ≤ 3 from by omega, show ¬ (4 : Nat) ≤ 3 from by omega, show (0 : Nat) ≤ 4 from by omega, show (1 : Nat) ≤ 4 from by omega, show (2 : Nat) ≤ 4 from by omega, show (3 : Nat) ≤ 4 from by omega, show (4 : Nat) ≤ 4 from by omega, if_true, if_false]
  simp only [Nat.sub_self, Nat.sub_zero, Nat.reduceSub, Nat.reduceAdd]
  rw [v5_eq, v5_eq]
  unfold p
  grind

theorem mP_v {a b : Nat → Int} (ha : C5 a) (hb : C5 b) : v5 (mP a b) = (v5 a * v5 b) % p ∧ R5 (mP a b) := by
  obtain ⟨q, hq⟩ := sums_v (a := a) hb
  have l0 := mL_v ha hb (k := 0) (by omega); have l1 := mL_v ha hb (k := 1) (by omega); have l2 := mL_v ha hb (k := 2) (by omega); have l3 := mL_v ha hb (k := 3) (by omega); have l4 := mL_v ha hb (k := 4) (by omega)
  obtain ⟨o1, o2, o3⟩ := mO_v ha hb 5 (by omega)
  have hT : wv (mT a b) = sO a b 5 * 19 := by
    unfold mT
    rw [o1, wadd_v w0_ok ⟨by omega, by omega⟩ ⟨by omega, by omega⟩ (by unfold wv; dsimp only; omega)]
    show (0 : Int) * 18446744073709551616 + 0 + _ = _
    omega
  have hm0 : 0 ≤ mL a b 0 ∧ mL a b 0 < 2251799813685248 := by rw [l0]; omega
  have hh := halves (w := mT a b) (wadd_ok _) (o := mL a b 0) (by omega) (by omega)
  let f : Nat → Int := fun j => match j with
    | 0 => andI .u64 (aS (mT a b).2 (mL a b 0) 0) 2251799813685247
    | 1 => addI .u64 (mL a b 1) (orI .u64 (shlI .u64 (addI .u64 (mT a b).1 (aC (mT a b).2 (mL a b 0) 0)) 13) (shrI .u64 (aS (mT a b).2 (mL a b 0) 0) 51))
    | j => mL a b j
  have f0 : f 0 = (wv (mT a b) + mL a b 0) % 2251799813685248 := low_v
  have f1 : f 1 = mL a b 1 + (wv (mT a b) + mL a b 0) / 2251799813685248 := by
    show addI .u64 _ _ = _
    rw [hh, addU, sm _ (by omega) (by omega)]
  have f2 : f 2 = mL a b 2 := rfl
  have f3 : f 3 = mL a b 3 := rfl
  have f4 : f 4 = mL a b 4 := rfl
  have h := reduce_L (f := f) (five ⟨by omega, by omega, by omega, by omega, by omega⟩)
  have hv : v5 f = v5 a * v5 b - p * (q + sO a b 5) := by
    rw [v5_eq, f0, f1, f2, f3, f4, hT, Int.mul_add p, show v5 a * v5 b - (p * q + p * sO a b 5) = v5 a * v5 b - p * q - p * sO a b 5 by omega, ← hq, l0, l1, l2, l3, l4]
    have s1 : sO a b 1 = (sW a b 0 5 + 0) / 2251799813685248 := rfl
    have s2 : sO a b 2 = (sW a b 1 5 + sO a b 1) / 2251799813685248 := rfl
    have s3 : sO a b 3 = (sW a b 2 5 + sO a b 2) / 2251799813685248 := rfl
    have s4 : sO a b 4 = (sW a b 3 5 + sO a b 3) / 2251799813685248 := rfl
    have s5 : sO a b 5 = (sW a b 4 5 + sO a b 4) / 2251799813685248 := rfl
    have s0 : sO a b 0 = 0 := rfl
    rw [s0]
    unfold p
    omega
  rw [hv, Int.sub_mul_emod_self_left] at h
  exact h

theorem mul_v {x y : Nat → Int} (hx : U5 x) (hy : U5 y) : v5 (mulF x y) = (v5 x * v5 y) % p ∧ R5 (mulF x y) := by
  have cx := carry_small hx
  have cy := carry_small hy
  obtain ⟨h1, h2⟩ := mP_v (a := carryF x) (b := carryF y) (fun j hj => by have := cx j hj; omega) (fun j hj => by have := cy j hj; omega)
  refine ⟨?_, h2⟩
  show v5 (mP (carryF x) (carryF y)) = _
  rw [h1, Int.mul_emod, (carry_v hx).1, (carry_v hy).1, Int.sub_mul_emod_self_left, Int.sub_mul_emod_self_left, ← Int.mul_emod]
end Go.Proofs.Ytbnclikjbnfodaa

/-
  FieldProducts answers true, of any limbs that uint64 holds. Conditions: none.
-/
namespace Go.Proofs.Ytbnclikjbnfodaa
open Go.Ev Go.Num

theorem products_true {x y : Nat → Int} (hx : U5 x) (hy : U5 y) : lawProducts x y = true := by
  obtain ⟨a1, a2⟩ := of_r hx
  obtain ⟨b1, b2⟩ := of_r hy
  obtain ⟨s1, s2⟩ := mul_v hx hy
  obtain ⟨t1, t2⟩ := mul_r a2 b2
  obtain ⟨s3, s4⟩ := mul_v hx hx
  obtain ⟨t3, t4⟩ := mul_r a2 a2
  have e1 := is_of s2 t2 (by rw [s1, t1, a1, b1, ← Int.mul_emod])
  have e2 := is_of s4 t4 (by rw [s3, t3, a1, ← Int.mul_emod])
  unfold lawProducts squareF
  rw [e1, e2]
  rfl

end Go.Proofs.Ytbnclikjbnfodaa
