/-
  Bytes and numbers: what FromBytes and Bytes come to, the program's and the document's. Conditions: none.
-/
import Derived.Test.YtbnclikjbnfodaaWI
import Derived.Test.YtbnclikjbnfodaaMG
namespace Go.Ev

theorem wrap_u8 (a : Int) : IntKind.wrap .u8 a = a % 256 := by simp [IntKind.wrap, IntKind.bits, IntKind.signed]
theorem or_addN {x y k : Nat} (hx : x < 2 ^ k) (hlt : x + y * 2 ^ k < 18446744073709551616) : orI .u64 (x : Int) ((y * 2 ^ k : Nat) : Int) = ((x + y * 2 ^ k : Nat) : Int) := by
  have h2 : x ||| y * 2 ^ k = x + y * 2 ^ k := by
    rw [Nat.or_comm, Nat.mul_comm, ← Nat.two_pow_add_eq_or_of_lt hx, Nat.add_comm]
  generalize y * 2 ^ k = z at *
  unfold orI bits2
  have b1 : (BitVec.ofInt (IntKind.bits .u64) (x : Int)).toNat = x := by
    rw [BitVec.toNat_ofInt]
    show (((x : Int) % 18446744073709551616)).toNat = x
    omega
  have b2 : (BitVec.ofInt (IntKind.bits .u64) (z : Int)).toNat = z := by
    rw [BitVec.toNat_ofInt]
    show ((z : Int) % 18446744073709551616).toNat = z
    omega
  rw [BitVec.toNat_or, b1, b2, wrap_u64, h2]
  omega
theorem or_add {a m : Int} (k : Nat) (h0 : 0 ≤ a) (h1 : a < 2 ^ k) (hm : 0 ≤ m) (hlt : a + m * 2 ^ k < 18446744073709551616) : orI .u64 a (m * 2 ^ k) = a + m * 2 ^ k := by
  obtain ⟨x, rfl⟩ := Int.eq_ofNat_of_zero_le h0
  obtain ⟨y, rfl⟩ := Int.eq_ofNat_of_zero_le hm
  have e : (y : Int) * 2 ^ k = ((y * 2 ^ k : Nat) : Int) := by push_cast; rfl
  have hx : x < 2 ^ k := by exact_mod_cast h1
  rw [e] at hlt ⊢
  rw [or_addN hx (by omega)]
  omega
theorem tL {c : Int} (k : Nat) (h : 0 ≤ c ∧ c < 256) (hk : k ≤ 43) : andI .u64 (shlI .u64 (IntKind.wrap .u64 c) (k : Int)) 2251799813685247 = c * 2 ^ k := by
  have hp : (0 : Int) < 2 ^ k := Go.Num.pow_pos' (by omega) k
  have hp2 : (2 : Int) ^ k ≤ 2 ^ 43 := by
    have : 2 ^ k ≤ 2 ^ 43 := Nat.pow_le_pow_right (by omega) hk
    exact_mod_cast this
  have e43 : (2 : Int) ^ 43 = 8796093022208 := by decide
  have h1 : 0 ≤ c * 2 ^ k := Int.mul_nonneg h.1 (by omega)
  have h2 : c * 2 ^ k ≤ 255 * 8796093022208 := Int.mul_le_mul (by omega) (by omega) (by omega) (by omega)
  rw [and51, shlU _ _ (by omega), wrap_u64, Go.Num.sm' c (by omega) (by omega), Go.Num.sm' (c * 2 ^ k) h1 (by omega)]
  exact Int.emod_eq_of_lt h1 (by omega)
theorem tM {c : Int} (k l : Nat) (h : 0 ≤ c ∧ c < 256) (hk : k + l = 51) (hl : l ≤ 8) : andI .u64 (shlI .u64 (IntKind.wrap .u64 c) (k : Int)) 2251799813685247 = c % 2 ^ l * 2 ^ k := by
  have hp : (0 : Int) < 2 ^ k := Go.Num.pow_pos' (by omega) k
  have hp2 : (2 : Int) ^ k ≤ 2 ^ 51 := by
    have : 2 ^ k ≤ 2 ^ 51 := Nat.pow_le_pow_right (by omega) (by omega)
    exact_mod_cast this
  have e51 : (2 : Int) ^ 51 = 2251799813685248 := by decide
  have h1 : 0 ≤ c * 2 ^ k := Int.mul_nonneg h.1 (by omega)
  have h2 : c * 2 ^ k ≤ 255 * 2251799813685248 := Int.mul_le_mul (by omega) (by omega) (by omega) (by omega)
  rw [and51, shlU _ _ (by omega), wrap_u64, Go.Num.sm' c (by omega) (by omega), Go.Num.sm' (c * 2 ^ k) h1 (by omega)]
  have : (2251799813685248 : Int) = 2 ^ l * 2 ^ k := by rw [← Int.pow_add, ← e51]; congr 1; omega
  rw [this, Int.mul_comm c, Int.mul_comm (2 ^ l), Int.mul_emod_mul_of_pos _ _ hp, Int.mul_comm]
theorem tR {c : Int} (k : Nat) (h : 0 ≤ c ∧ c < 256) (hk : k ≤ 64) : shrI .u64 (IntKind.wrap .u64 c) (k : Int) = c / 2 ^ k := by
  rw [shrU _ _ hk, wrap_u64, Go.Num.sm' c (by omega) (by omega)]
theorem or_zero {a : Int} (h0 : 0 ≤ a) (h1 : a < 18446744073709551616) : orI .u64 0 a = a := by
  have := or_add (a := 0) (m := a) 0 (by omega) (by simp) h0 (by simpa using h1)
  simpa using this
theorem and8_7 (a : Int) : andI .u8 a 127 = a % 128 := by
  unfold andI bits2
  have e1 : (BitVec.ofInt (IntKind.bits .u8) a).toNat = (a % 256).toNat := by rw [BitVec.toNat_ofInt]; rfl
  have e2 : (BitVec.ofInt (IntKind.bits .u8) 127).toNat = 2 ^ 7 - 1 := by decide
  rw [BitVec.toNat_and, e1, e2, Nat.and_two_pow_sub_one_eq_mod, wrap_u8]
  omega
end Go.Ev
namespace Go.Proofs.Ytbnclikjbnfodaa
open Go.Ev Go.Num

def B32 (b : Nat → Int) : Prop := ∀ j, j < 32 → 0 ≤ b j ∧ b j < 256
def vb (b : Nat → Int) : Int := dv 256 32 b

def fbL0 (b : Nat → Int) : Int := (b 0) + (b 1) * 256 + (b 2) * 65536 + (b 3) * 16777216 + (b 4) * 4294967296 + (b 5) * 1099511627776 + (b 6 % 8) * 281474976710656
theorem fb_limb0 {b : Nat → Int} (h : B32 b) : (orI .u64 (orI .u64 (orI .u64 (orI .u64 (orI .u64 (orI .u64 (orI .u64 0 (andI .u64 (shlI .u64 (IntKind.wrap .u64 (b 0)) 0) 2251799813685247)) (andI .u64 (shlI .u64 (IntKind.wrap .u64 (b 1)) 8) 2251799813685247)) (andI .u64 (shlI .u64 (IntKind.wrap .u64 (b 2)) 16) 2251799813685247)) (andI .u64 (shlI .u64 (IntKind.wrap .u64 (b 3)) 24) 2251799813685247)) (andI .u64 (shlI .u64 (IntKind.wrap .u64 (b 4)) 32) 2251799813685247)) (andI .u64 (shlI .u64 (IntKind.wrap .u64 (b 5)) 40) 2251799813685247)) (andI .u64 (shlI .u64 (IntKind.wrap .u64 (b 6)) 48) 2251799813685247)) = fbL0 b ∧ 0 ≤ fbL0 b ∧ fbL0 b < 2251799813685248 := by
  have h0 := h 0 (by omega)
  have h1 := h 1 (by omega)
  have h2 := h 2 (by omega)
  have h3 := h 3 (by omega)
  have h4 := h 4 (by omega)
  have h5 := h 5 (by omega)
  have h6 := h 6 (by omega)
  have t0 : (andI .u64 (shlI .u64 (IntKind.wrap .u64 (b 0)) 0) 2251799813685247) = (b 0) * 2 ^ 0 := tL 0 h0 (by omega)
  have t1 : (andI .u64 (shlI .u64 (IntKind.wrap .u64 (b 1)) 8) 2251799813685247) = (b 1) * 2 ^ 8 := tL 8 h1 (by omega)
  have t2 : (andI .u64 (shlI .u64 (IntKind.wrap .u64 (b 2)) 16) 2251799813685247) = (b 2) * 2 ^ 16 := tL 16 h2 (by omega)
  have t3 : (andI .u64 (shlI .u64 (IntKind.wrap .u64 (b 3)) 24) 2251799813685247) = (b 3) * 2 ^ 24 := tL 24 h3 (by omega)
  have t4 : (andI .u64 (shlI .u64 (IntKind.wrap .u64 (b 4)) 32) 2251799813685247) = (b 4) * 2 ^ 32 := tL 32 h4 (by omega)
  have t5 : (andI .u64 (shlI .u64 (IntKind.wrap .u64 (b 5)) 40) 2251799813685247) = (b 5) * 2 ^ 40 := tL 40 h5 (by omega)
  have t6 : (andI .u64 (shlI .u64 (IntKind.wrap .u64 (b 6)) 48) 2251799813685247) = (b 6 % 8) * 2 ^ 48 := tM 48 3 h6 (by omega) (by omega)
  rw [t0, t1, t2, t3, t4, t5, t6]
  rw [or_add 0 (by omega) (by omega) (by omega) (by omega)]
  rw [or_add 8 (by omega) (by omega) (by omega) (by omega)]
  rw [or_add 16 (by omega) (by omega) (by omega) (by omega)]
  rw [or_add 24 (by omega) (by omega) (by omega) (by omega)]
  rw [or_add 32 (by omega) (by omega) (by omega) (by omega)]
  rw [or_add 40 (by omega) (by omega) (by omega) (by omega)]
  rw [or_add 48 (by omega) (by omega) (by omega) (by omega)]
  unfold fbL0
  refine ⟨by omega, by omega, by omega⟩

def fbL1 (b : Nat → Int) : Int := (b 6 / 8) + (b 7) * 32 + (b 8) * 8192 + (b 9) * 2097152 + (b 10) * 536870912 + (b 11) * 137438953472 + (b 12 % 64) * 35184372088832
theorem fb_limb1 {b : Nat → Int} (h : B32 b) : (orI .u64 (orI .u64 (orI .u64 (orI .u64 (orI .u64 (orI .u64 (orI .u64 0 (shrI .u64 (IntKind.wrap .u64 (b 6)) 3)) (andI .u64 (shlI .u64 (IntKind.wrap .u64 (b 7)) 5) 2251799813685247)) (andI .u64 (shlI .u64 (IntKind.wrap .u64 (b 8)) 13) 2251799813685247)) (andI .u64 (shlI .u64 (IntKind.wrap .u64 (b 9)) 21) 2251799813685247)) (andI .u64 (shlI .u64 (IntKind.wrap .u64 (b 10)) 29) 2251799813685247)) (andI .u64 (shlI .u64 (IntKind.wrap .u64 (b 11)) 37) 2251799813685247)) (andI .u64 (shlI .u64 (IntKind.wrap .u64 (b 12)) 45) 2251799813685247)) = fbL1 b ∧ 0 ≤ fbL1 b ∧ fbL1 b < 2251799813685248 := by
  have h6 := h 6 (by omega)
  have h7 := h 7 (by omega)
  have h8 := h 8 (by omega)
  have h9 := h 9 (by omega)
  have h10 := h 10 (by omega)
  have h11 := h 11 (by omega)
  have h12 := h 12 (by omega)
  have t0 : (shrI .u64 (IntKind.wrap .u64 (b 6)) 3) = b 6 / 8 := tR 3 h6 (by omega)
  have t1 : (andI .u64 (shlI .u64 (IntKind.wrap .u64 (b 7)) 5) 2251799813685247) = (b 7) * 2 ^ 5 := tL 5 h7 (by omega)
  have t2 : (andI .u64 (shlI .u64 (IntKind.wrap .u64 (b 8)) 13) 2251799813685247) = (b 8) * 2 ^ 13 := tL 13 h8 (by omega)
  have t3 : (andI .u64 (shlI .u64 (IntKind.wrap .u64 (b 9)) 21) 2251799813685247) = (b 9) * 2 ^ 21 := tL 21 h9 (by omega)
  have t4 : (andI .u64 (shlI .u64 (IntKind.wrap .u64 (b 10)) 29) 2251799813685247) = (b 10) * 2 ^ 29 := tL 29 h10 (by omega)
  have t5 : (andI .u64 (shlI .u64 (IntKind.wrap .u64 (b 11)) 37) 2251799813685247) = (b 11) * 2 ^ 37 := tL 37 h11 (by omega)
  have t6 : (andI .u64 (shlI .u64 (IntKind.wrap .u64 (b 12)) 45) 2251799813685247) = (b 12 % 64) * 2 ^ 45 := tM 45 6 h12 (by omega) (by omega)
  rw [t0, t1, t2, t3, t4, t5, t6]
  rw [or_zero (by omega) (by omega)]
  rw [or_add 5 (by omega) (by omega) (by omega) (by omega)]
  rw [or_add 13 (by omega) (by omega) (by omega) (by omega)]
  rw [or_add 21 (by omega) (by omega) (by omega) (by omega)]
  rw [or_add 29 (by omega) (by omega) (by omega) (by omega)]
  rw [or_add 37 (by omega) (by omega) (by omega) (by omega)]
  rw [or_add 45 (by omega) (by omega) (by omega) (by omega)]
  unfold fbL1
  refine ⟨by omega, by omega, by omega⟩

def fbL2 (b : Nat → Int) : Int := (b 12 / 64) + (b 13) * 4 + (b 14) * 1024 + (b 15) * 262144 + (b 16) * 67108864 + (b 17) * 17179869184 + (b 18) * 4398046511104 + (b 19 % 2) * 1125899906842624
theorem fb_limb2 {b : Nat → Int} (h : B32 b) : (orI .u64 (orI .u64 (orI .u64 (orI .u64 (orI .u64 (orI .u64 (orI .u64 (orI .u64 0 (shrI .u64 (IntKind.wrap .u64 (b 12)) 6)) (andI .u64 (shlI .u64 (IntKind.wrap .u64 (b 13)) 2) 2251799813685247)) (andI .u64 (shlI .u64 (IntKind.wrap .u64 (b 14)) 10) 2251799813685247)) (andI .u64 (shlI .u64 (IntKind.wrap .u64 (b 15)) 18) 2251799813685247)) (andI .u64 (shlI .u64 (IntKind.wrap .u64 (b 16)) 26) 2251799813685247)) (andI .u64 (shlI .u64 (IntKind.wrap .u64 (b 17)) 34) 2251799813685247)) (andI .u64 (shlI .u64 (IntKind.wrap .u64 (b 18)) 42) 2251799813685247)) (andI .u64 (shlI .u64 (IntKind.wrap .u64 (b 19)) 50) 2251799813685247)) = fbL2 b ∧ 0 ≤ fbL2 b ∧ fbL2 b < 2251799813685248 := by
  have h12 := h 12 (by omega)
  have h13 := h 13 (by omega)
  have h14 := h 14 (by omega)
  have h15 := h 15 (by omega)
  have h16 := h 16 (by omega)
  have h17 := h 17 (by omega)
  have h18 := h 18 (by omega)
  have h19 := h 19 (by omega)
  have t0 : (shrI .u64 (IntKind.wrap .u64 (b 12)) 6) = b 12 / 64 := tR 6 h12 (by omega)
  have t1 : (andI .u64 (shlI .u64 (IntKind.wrap .u64 (b 13)) 2) 2251799813685247) = (b 13) * 2 ^ 2 := tL 2 h13 (by omega)
  have t2 : (andI .u64 (shlI .u64 (IntKind.wrap .u64 (b 14)) 10) 2251799813685247) = (b 14) * 2 ^ 10 := tL 10 h14 (by omega)
  have t3 : (andI .u64 (shlI .u64 (IntKind.wrap .u64 (b 15)) 18) 2251799813685247) = (b 15) * 2 ^ 18 := tL 18 h15 (by omega)
  have t4 : (andI .u64 (shlI .u64 (IntKind.wrap .u64 (b 16)) 26) 2251799813685247) = (b 16) * 2 ^ 26 := tL 26 h16 (by omega)
  have t5 : (andI .u64 (shlI .u64 (IntKind.wrap .u64 (b 17)) 34) 2251799813685247) = (b 17) * 2 ^ 34 := tL 34 h17 (by omega)
  have t6 : (andI .u64 (shlI .u64 (IntKind.wrap .u64 (b 18)) 42) 2251799813685247) = (b 18) * 2 ^ 42 := tL 42 h18 (by omega)
  have t7 : (andI .u64 (shlI .u64 (IntKind.wrap .u64 (b 19)) 50) 2251799813685247) = (b 19 % 2) * 2 ^ 50 := tM 50 1 h19 (by omega) (by omega)
  rw [t0, t1, t2, t3, t4, t5, t6, t7]
  rw [or_zero (by omega) (by omega)]
  rw [or_add 2 (by omega) (by omega) (by omega) (by omega)]
  rw [or_add 10 (by omega) (by omega) (by omega) (by omega)]
  rw [or_add 18 (by omega) (by omega) (by omega) (by omega)]
  rw [or_add 26 (by omega) (by omega) (by omega) (by omega)]
  rw [or_add 34 (by omega) (by omega) (by omega) (by omega)]
  rw [or_add 42 (by omega) (by omega) (by omega) (by omega)]
  rw [or_add 50 (by omega) (by omega) (by omega) (by omega)]
  unfold fbL2
  refine ⟨by omega, by omega, by omega⟩

def fbL3 (b : Nat → Int) : Int := (b 19 / 2) + (b 20) * 128 + (b 21) * 32768 + (b 22) * 8388608 + (b 23) * 2147483648 + (b 24) * 549755813888 + (b 25 % 16) * 140737488355328
theorem fb_limb3 {b : Nat → Int} (h : B32 b) : (orI .u64 (orI .u64 (orI .u64 (orI .u64 (orI .u64 (orI .u64 (orI .u64 0 (shrI .u64 (IntKind.wrap .u64 (b 19)) 1)) (andI .u64 (shlI .u64 (IntKind.wrap .u64 (b 20)) 7) 2251799813685247)) (andI .u64 (shlI .u64 (IntKind.wrap .u64 (b 21)) 15) 2251799813685247)) (andI .u64 (shlI .u64 (IntKind.wrap .u64 (b 22)) 23) 2251799813685247)) (andI .u64 (shlI .u64 (IntKind.wrap .u64 (b 23)) 31) 2251799813685247)) (andI .u64 (shlI .u64 (IntKind.wrap .u64 (b 24)) 39) 2251799813685247)) (andI .u64 (shlI .u64 (IntKind.wrap .u64 (b 25)) 47) 2251799813685247)) = fbL3 b ∧ 0 ≤ fbL3 b ∧ fbL3 b < 2251799813685248 := by
  have h19 := h 19 (by omega)
  have h20 := h 20 (by omega)
  have h21 := h 21 (by omega)
  have h22 := h 22 (by omega)
  have h23 := h 23 (by omega)
  have h24 := h 24 (by omega)
  have h25 := h 25 (by omega)
  have t0 : (shrI .u64 (IntKind.wrap .u64 (b 19)) 1) = b 19 / 2 := tR 1 h19 (by omega)
  have t1 : (andI .u64 (shlI .u64 (IntKind.wrap .u64 (b 20)) 7) 2251799813685247) = (b 20) * 2 ^ 7 := tL 7 h20 (by omega)
  have t2 : (andI .u64 (shlI .u64 (IntKind.wrap .u64 (b 21)) 15) 2251799813685247) = (b 21) * 2 ^ 15 := tL 15 h21 (by omega)
  have t3 : (andI .u64 (shlI .u64 (IntKind.wrap .u64 (b 22)) 23) 2251799813685247) = (b 22) * 2 ^ 23 := tL 23 h22 (by omega)
  have t4 : (andI .u64 (shlI .u64 (IntKind.wrap .u64 (b 23)) 31) 2251799813685247) = (b 23) * 2 ^ 31 := tL 31 h23 (by omega)
  have t5 : (andI .u64 (shlI .u64 (IntKind.wrap .u64 (b 24)) 39) 2251799813685247) = (b 24) * 2 ^ 39 := tL 39 h24 (by omega)
  have t6 : (andI .u64 (shlI .u64 (IntKind.wrap .u64 (b 25)) 47) 2251799813685247) = (b 25 % 16) * 2 ^ 47 := tM 47 4 h25 (by omega) (by omega)
  rw [t0, t1, t2, t3, t4, t5, t6]
  rw [or_zero (by omega) (by omega)]
  rw [or_add 7 (by omega) (by omega) (by omega) (by omega)]
  rw [or_add 15 (by omega) (by omega) (by omega) (by omega)]
  rw [or_add 23 (by omega) (by omega) (by omega) (by omega)]
  rw [or_add 31 (by omega) (by omega) (by omega) (by omega)]
  rw [or_add 39 (by omega) (by omega) (by omega) (by omega)]
  rw [or_add 47 (by omega) (by omega) (by omega) (by omega)]
  unfold fbL3
  refine ⟨by omega, by omega, by omega⟩

def fbL4 (b : Nat → Int) : Int := (b 25 / 16) + (b 26) * 16 + (b 27) * 4096 + (b 28) * 1048576 + (b 29) * 268435456 + (b 30) * 68719476736 + (b 31 % 128 % 128) * 17592186044416
theorem fb_limb4 {b : Nat → Int} (h : B32 b) : (orI .u64 (orI .u64 (orI .u64 (orI .u64 (orI .u64 (orI .u64 (orI .u64 0 (shrI .u64 (IntKind.wrap .u64 (b 25)) 4)) (andI .u64 (shlI .u64 (IntKind.wrap .u64 (b 26)) 4) 2251799813685247)) (andI .u64 (shlI .u64 (IntKind.wrap .u64 (b 27)) 12) 2251799813685247)) (andI .u64 (shlI .u64 (IntKind.wrap .u64 (b 28)) 20) 2251799813685247)) (andI .u64 (shlI .u64 (IntKind.wrap .u64 (b 29)) 28) 2251799813685247)) (andI .u64 (shlI .u64 (IntKind.wrap .u64 (b 30)) 36) 2251799813685247)) (andI .u64 (shlI .u64 (IntKind.wrap .u64 (andI .u8 (b 31) 127)) 44) 2251799813685247)) = fbL4 b ∧ 0 ≤ fbL4 b ∧ fbL4 b < 2251799813685248 := by
  have h25 := h 25 (by omega)
  have h26 := h 26 (by omega)
  have h27 := h 27 (by omega)
  have h28 := h 28 (by omega)
  have h29 := h 29 (by omega)
  have h30 := h 30 (by omega)
  have h31 := h 31 (by omega)
  have t0 : (shrI .u64 (IntKind.wrap .u64 (b 25)) 4) = b 25 / 16 := tR 4 h25 (by omega)
  have t1 : (andI .u64 (shlI .u64 (IntKind.wrap .u64 (b 26)) 4) 2251799813685247) = (b 26) * 2 ^ 4 := tL 4 h26 (by omega)
  have t2 : (andI .u64 (shlI .u64 (IntKind.wrap .u64 (b 27)) 12) 2251799813685247) = (b 27) * 2 ^ 12 := tL 12 h27 (by omega)
  have t3 : (andI .u64 (shlI .u64 (IntKind.wrap .u64 (b 28)) 20) 2251799813685247) = (b 28) * 2 ^ 20 := tL 20 h28 (by omega)
  have t4 : (andI .u64 (shlI .u64 (IntKind.wrap .u64 (b 29)) 28) 2251799813685247) = (b 29) * 2 ^ 28 := tL 28 h29 (by omega)
  have t5 : (andI .u64 (shlI .u64 (IntKind.wrap .u64 (b 30)) 36) 2251799813685247) = (b 30) * 2 ^ 36 := tL 36 h30 (by omega)
  have t6 : (andI .u64 (shlI .u64 (IntKind.wrap .u64 (andI .u8 (b 31) 127)) 44) 2251799813685247) = (andI .u8 (b 31) 127 % 128) * 2 ^ 44 := tM 44 7 (by rw [and8_7]; omega) (by omega) (by omega)
  rw [t0, t1, t2, t3, t4, t5, t6]
  rw [and8_7]
  rw [or_zero (by omega) (by omega)]
  rw [or_add 4 (by omega) (by omega) (by omega) (by omega)]
  rw [or_add 12 (by omega) (by omega) (by omega) (by omega)]
  rw [or_add 20 (by omega) (by omega) (by omega) (by omega)]
  rw [or_add 28 (by omega) (by omega) (by omega) (by omega)]
  rw [or_add 36 (by omega) (by omega) (by omega) (by omega)]
  rw [or_add 44 (by omega) (by omega) (by omega) (by omega)]
  unfold fbL4
  refine ⟨by omega, by omega, by omega⟩

theorem fromBytes_v {b : Nat → Int} (h : B32 b) : v5 (fromBytesF b) = vb b % 57896044618658097711785492504343953926634992332820282019728792003956564819968 % p ∧ R5 (fromBytesF b) := by
  have e : fromBytesF b = reduceF (L [fbL0 b, fbL1 b, fbL2 b, fbL3 b, fbL4 b]) := by
    unfold fromBytesF
    rw [(fb_limb0 h).1, (fb_limb1 h).1, (fb_limb2 h).1, (fb_limb3 h).1, (fb_limb4 h).1]
  have l0 := (fb_limb0 h).2; have l1 := (fb_limb1 h).2; have l2 := (fb_limb2 h).2; have l3 := (fb_limb3 h).2; have l4 := (fb_limb4 h).2
  have hr := reduce_v (x := L [fbL0 b, fbL1 b, fbL2 b, fbL3 b, fbL4 b]) (five ⟨by show 0 ≤ fbL0 b ∧ fbL0 b < _; omega, by show 0 ≤ fbL1 b ∧ fbL1 b < _; omega, by show 0 ≤ fbL2 b ∧ fbL2 b < _; omega, by show 0 ≤ fbL3 b ∧ fbL3 b < _; omega, by show 0 ≤ fbL4 b ∧ fbL4 b < _; omega⟩)
  rw [← e] at hr
  have hv : v5 (L [fbL0 b, fbL1 b, fbL2 b, fbL3 b, fbL4 b]) = vb b % 57896044618658097711785492504343953926634992332820282019728792003956564819968 := by
    rw [v5_eq]
    show fbL0 b + 2251799813685248 * (fbL1 b + 2251799813685248 * (fbL2 b + 2251799813685248 * (fbL3 b + 2251799813685248 * fbL4 b))) = _
    have hs : vb b = (fbL0 b + 2251799813685248 * (fbL1 b + 2251799813685248 * (fbL2 b + 2251799813685248 * (fbL3 b + 2251799813685248 * fbL4 b)))) + 57896044618658097711785492504343953926634992332820282019728792003956564819968 * (b 31 / 128) := by
      unfold vb
      simp only [dv]
      simp only [Nat.reduceAdd, Int.mul_zero, Int.add_zero]
      unfold fbL0 fbL1 fbL2 fbL3 fbL4
      omega
    rw [hs, Int.add_mul_emod_self_left]
    exact (Int.emod_eq_of_lt (by omega) (by omega)).symm
  rw [hv] at hr
  exact hr
end Go.Proofs.Ytbnclikjbnfodaa
