/-
  The program's product as a number. Conditions: none.
-/
import Derived.Test.YtbnclikjbnfodaaWProducts
import Derived.Test.YtbnclikjbnfodaaMH
namespace Go.Proofs.Ytbnclikjbnfodaa
open Go.Ev Go.Num

theorem and32 (a : Int) : andI .u64 a 4294967295 = a % 4294967296 := and_mask a 32 (by omega)
theorem shr32 (a : Int) : shrI .u64 a 32 = a / 4294967296 := shrU a 32 (by omega)
theorem or_comm' (a b : Int) : orI .u64 a b = orI .u64 b a := by unfold orI bits2; dsimp only; rw [BitVec.or_comm]
theorem mul_le' {a b A B : Int} (ha : 0 ≤ a) (hb : 0 ≤ b) (hA : a ≤ A) (hB : b ≤ B) : 0 ≤ a * b ∧ a * b ≤ A * B :=
  ⟨Int.mul_nonneg ha hb, Int.mul_le_mul hA hB hb (by omega)⟩

def U1 (a : Int) : Prop := 0 ≤ a ∧ a < 18446744073709551616
theorem mul64_v {a b : Int} (ha : U1 a) (hb : U1 b) : (mul64 a b).1 * 18446744073709551616 + (mul64 a b).2 = a * b ∧ U1 (mul64 a b).1 ∧ U1 (mul64 a b).2 := by
  obtain ⟨a0, a1⟩ := ha; obtain ⟨b0, b1⟩ := hb
  have e : a * b = (a % 4294967296) * (b % 4294967296) + 4294967296 * ((a / 4294967296) * (b % 4294967296) + (a % 4294967296) * (b / 4294967296)) + 18446744073709551616 * ((a / 4294967296) * (b / 4294967296)) := by
    have h1 : a = a % 4294967296 + 4294967296 * (a / 4294967296) := by omega
    have h2 : b = b % 4294967296 + 4294967296 * (b / 4294967296) := by omega
    generalize a % 4294967296 = x0 at *
    generalize a / 4294967296 = x1 at *
    generalize b % 4294967296 = y0 at *
    generalize b / 4294967296 = y1 at *
    subst h1 h2
    grind
  have m00 := mul_le' (a := a % 4294967296) (b := b % 4294967296) (A := 4294967295) (B := 4294967295) (by omega) (by omega) (by omega) (by omega)
  have m10 := mul_le' (a := a / 4294967296) (b := b % 4294967296) (A := 4294967295) (B := 4294967295) (by omega) (by omega) (by omega) (by omega)
  have m01 := mul_le' (a := a % 4294967296) (b := b / 4294967296) (A := 4294967295) (B := 4294967295) (by omega) (by omega) (by omega) (by omega)
  have m11 := mul_le' (a := a / 4294967296) (b := b / 4294967296) (A := 4294967295) (B := 4294967295) (by omega) (by omega) (by omega) (by omega)
  simp only [mul64, addU, mulU, and32, shr32]
  rw [e]
  generalize (a % 4294967296) * (b % 4294967296) = p00 at *
  generalize (a / 4294967296) * (b % 4294967296) = p10 at *
  generalize (a % 4294967296) * (b / 4294967296) = p01 at *
  generalize (a / 4294967296) * (b / 4294967296) = p11 at *
  clear e a0 a1 b0 b1
  rw [sm p00 (by omega) (by omega), sm p10 (by omega) (by omega), sm p01 (by omega) (by omega), sm p11 (by omega) (by omega)]
  rw [sm (p10 + p00 / 4294967296) (by omega) (by omega), sm (p11 + _) (by omega) (by omega), sm ((p10 + p00 / 4294967296) % 4294967296 + p01) (by omega) (by omega), sm (p11 + _ + _) (by omega) (by omega)]
  unfold U1
  refine ⟨?_, ⟨?_, ?_⟩, ⟨?_, ?_⟩⟩ <;> omega

/-- What a pair of halves comes to. -/
def wv (w : Int × Int) : Int := w.1 * 18446744073709551616 + w.2
theorem wadd_v {w : Int × Int} {a b : Int} (hw : WOK w) (ha : U1 a) (hb : U1 b) (h : wv w + a * b < 340282366920938463463374607431768211456) : wv (wadd w a b) = wv w + a * b := by
  obtain ⟨e, ⟨h1, h2⟩, h3, h4⟩ := mul64_v ha hb
  obtain ⟨w1, w2, w3⟩ := hw
  unfold wv at *
  unfold wadd aS aC
  dsimp only
  rw [← e] at h ⊢
  generalize (mul64 a b).1 = hi at *
  generalize (mul64 a b).2 = lo at *
  omega

/-- The exact sum. -/
def sW (a b : Nat → Int) (k : Nat) : Nat → Int
  | 0 => 0
  | n + 1 => sW a b k n + a n * mB2 b k n
def C5 (x : Nat → Int) : Prop := ∀ j, j < 5 → 0 ≤ x j ∧ x j ≤ 4503599627370496
theorem mB2_v {b : Nat → Int} (hb : C5 b) {k i : Nat} (hk : k < 5) (hi : i < 5) : mB2 b k i = (if i ≤ k then b (k - i) else 19 * b (k + 5 - i)) ∧ 0 ≤ mB2 b k i ∧ mB2 b k i ≤ 144115188075855872 := by
  unfold mB2
  by_cases h : i ≤ k
  · rw [if_pos h, (bleT (a := i) (b := k)).2 h, cond_true]
    have := hb (k - i) (by omega)
    omega
  · rw [if_neg h, ff bleT h, cond_false, mulU]
    have := hb (k + 5 - i) (by omega)
    rw [sm _ (by omega) (by omega)]
    omega
theorem mW_v {a b : Nat → Int} (ha : C5 a) (hb : C5 b) {k : Nat} (hk : k < 5) : ∀ n, n ≤ 5 → wv (mW a b k n) = sW a b k n ∧ 0 ≤ sW a b k n ∧ sW a b k n ≤ n * 649037107316853453566312041152512
  | 0, _ => ⟨rfl, by simp [sW], by simp [sW]⟩
  | n + 1, hn => by
    obtain ⟨i1, i2, i3⟩ := mW_v ha hb hk n (by omega)
    obtain ⟨b1, b2, b3⟩ := mB2_v hb hk (show n < 5 by omega)
    have ha := ha n (by omega)
    have hm := mul_le' ha.1 b2 ha.2 b3
    simp only [mW, sW]
    have hle : sW a b k n + a n * mB2 b k n ≤ (n + 1 : Nat) * 649037107316853453566312041152512 := by push_cast; omega
    have hlt : ((n + 1 : Nat) : Int) ≤ 5 := by omega
    rw [wadd_v (mW_ok a b k n) ⟨ha.1, by omega⟩ ⟨b2, by omega⟩ (by rw [i1]; omega), i1]
    exact ⟨rfl, by omega, hle⟩

/-- What goes over into limb k, exactly. -/
def sO (a b : Nat → Int) : Nat → Int
  | 0 => 0
  | k + 1 => (sW a b k 5 + sO a b k) / 2251799813685248

theorem halves {w : Int × Int} (hw : WOK w) {o : Int} (ho : 0 ≤ o ∧ o < 4611686018427387904) (h : wv w < 5192296858534827628530496329220096) :
    orI .u64 (shlI .u64 (addI .u64 w.1 (aC w.2 o 0)) 13) (shrI .u64 (aS w.2 o 0) 51) = (wv w + o) / 2251799813685248 := by
  obtain ⟨w1, w2, w3⟩ := hw
  unfold wv at *
  unfold aC aS
  have hc : 0 ≤ (w.2 + o + 0) / 18446744073709551616 ∧ (w.2 + o + 0) / 18446744073709551616 ≤ 1 := by omega
  have hs := Int.emod_nonneg (w.2 + o + 0) (show (18446744073709551616 : Int) ≠ 0 by omega)
  have hs2 := Int.emod_lt_of_pos (w.2 + o + 0) (show (0 : Int) < 18446744073709551616 by omega)
  rw [addU, sm (w.1 + _) (by omega) (by omega), shr51]
  rw [show shlI .u64 (w.1 + (w.2 + o + 0) / 18446744073709551616) 13 = ((w.1 + (w.2 + o + 0) / 18446744073709551616) * 8192) % 18446744073709551616 from shlU _ 13 (by omega)]
  rw [sm (_ * 8192) (by omega) (by omega), or_comm']
  rw [show ((w.1 + (w.2 + o + 0) / 18446744073709551616) * 8192 : Int) = (w.1 + (w.2 + o + 0) / 18446744073709551616) * 2 ^ 13 from rfl, or_add 13 (by omega) (by show _ / _ < (8192 : Int); omega) (by omega) (by show _ + _ * (8192 : Int) < _; omega)]
  show _ + _ * (8192 : Int) = _
  omega

theorem mO_v {a b : Nat → Int} (ha : C5 a) (hb : C5 b) : ∀ k, k ≤ 5 → mO a b k = sO a b k ∧ 0 ≤ sO a b k ∧ sO a b k ≤ 1441151880758560000
  | 0, _ => ⟨rfl, by simp [sO], by simp [sO]⟩
  | k + 1, hk => by
    obtain ⟨i1, i2, i3⟩ := mO_v ha hb k (by omega)
    obtain ⟨w1, w2, w3⟩ := mW_v ha hb (show k < 5 by omega) 5 (by omega)
    have h := halves (mW_ok a b k 5) (o := mO a b k) (by omega) (by rw [w1]; omega)
    rw [w1, i1] at h
    refine ⟨?_, ?_, ?_⟩
    · show orI .u64 _ _ = _
      rw [i1]; exact h
    · show 0 ≤ (_ / _ : Int); omega
    · show (_ / _ : Int) ≤ _; omega
theorem low_v {w : Int × Int} {o : Int} : andI .u64 (aS w.2 o 0) 2251799813685247 = (wv w + o) % 2251799813685248 := by
  rw [and51]; unfold aS wv; omega
theorem mL_v {a b : Nat → Int} (ha : C5 a) (hb : C5 b) {k : Nat} (hk : k < 5) : mL a b k = (sW a b k 5 + sO a b k) % 2251799813685248 := by
  obtain ⟨w1, w2, w3⟩ := mW_v ha hb hk 5 (by omega)
  obtain ⟨i1, i2, i3⟩ := mO_v ha hb k (by omega)
  unfold mL
  rw [low_v, w1, i1]

theorem sums_v {a b : Nat → Int} (hb : C5 b) : ∃ q, sW a b 0 5 + 2251799813685248 * (sW a b 1 5 + 2251799813685248 * (sW a b 2 5 + 2251799813685248 * (sW a b 3 5 + 2251799813685248 * sW a b 4 5))) = v5 a * v5 b - p * q := by
  have e := fun k hk i hi => (mB2_v hb (k := k) (i := i) hk hi).1
  refine ⟨(a 1 * b 4 + a 2 * b 3 + a 3 * b 2 + a 4 * b 1) + 2251799813685248 * ((a 2 * b 4 + a 3 * b 3 + a 4 * b 2) + 2251799813685248 * ((a 3 * b 4 + a 4 * b 3) + 2251799813685248 * (a 4 * b 4))), ?_⟩
  simp only [sW]
  rw [e 0 (by omega) 0 (by omega), e 0 (by omega) 1 (by omega), e 0 (by omega) 2 (by omega), e 0 (by omega) 3 (by omega), e 0 (by omega) 4 (by omega)]
  rw [e 1 (by omega) 0 (by omega), e 1 (by omega) 1 (by omega), e 1 (by omega) 2 (by omega), e 1 (by omega) 3 (by omega), e 1 (by omega) 4 (by omega)]
  rw [e 2 (by omega) 0 (by omega), e 2 (by omega) 1 (by omega), e 2 (by omega) 2 (by omega), e 2 (by omega) 3 (by omega), e 2 (by omega) 4 (by omega)]
  rw [e 3 (by omega) 0 (by omega), e 3 (by omega) 1 (by omega), e 3 (by omega) 2 (by omega), e 3 (by omega) 3 (by omega), e 3 (by omega) 4 (by omega)]
  rw [e 4 (by omega) 0 (by omega), e 4 (by omega) 1 (by omega), e 4 (by omega) 2 (by omega), e 4 (by omega) 3 (by omega), e 4 (by omega) 4 (by omega)]
  simp only [show (0 : Nat) ≤ 0 from by omega, show ¬ (1 : Nat) ≤ 0 from by omega, show ¬ (2 : Nat) ≤ 0 from by omega, show ¬ (3 : Nat) ≤ 0 from by omega, show ¬ (4 : Nat) ≤ 0 from by omega, show (0 : Nat) ≤ 1 from by omega, show (1 : Nat) ≤ 1 from by omega, show ¬ (2 : Nat) ≤ 1 from by omega, show ¬ (3 : Nat) ≤ 1 from by omega, show ¬ (4 : Nat) ≤ 1 from by omega, show (0 : Nat) ≤ 2 from by omega, show (1 : Nat) ≤ 2 from by omega, show (2 : Nat) ≤ 2 from by omega, show ¬ (3 : Nat) ≤ 2 from by omega, show ¬ (4 : Nat) ≤ 2 from by omega, show (0 : Nat) ≤ 3 from by omega, show (1 : Nat) ≤ 3 from by omega, show (2 : Nat) ≤ 3 from by omega, show (3 : Nat) ≤ 3 from by omega, show ¬ (4 : Nat) ≤ 3 from by omega, show (0 : Nat) ≤ 4 from by omega, show (1 : Nat) ≤ 4 from by omega, show (2 : Nat) ≤ 4 from by omega, show (3 : Nat) ≤ 4 from by omega, show (4 : Nat) ≤ 4 from by omega, if_true, if_false]
  simp only [Nat.sub_self, Nat.sub_zero, Nat.reduceSub, Nat.reduceAdd]
  rw [v5_eq, v5_eq]
  unfold p
  grind

theorem mP_v {a b : Nat → Int} (ha : C5 a) (hb : C5 b) : v5 (mP a b) = (v5 a * v5 b) % p ∧ R5 (mP a b) := by
  obtain ⟨q, hq⟩ := sums_v (a := a) hb
  have l0 := mL_v ha hb (k := 0) (by omega); have l1 := mL_v ha hb (k := 1) (by omega); have l2 := mL_v ha hb (k := 2) (by omega); have l3 := mL_v ha hb (k := 3) (by omega); have l4 := mL_v ha hb (k := 4) (by omega)
  obtain ⟨o1, o2, o3⟩ := mO_v ha hb 5 (by omega)
  have hT : wv (mT a b) = sO a b 5 * 19 := by
    unfold mT
    rw [o1, wadd_v w0_ok ⟨by omega, by omega⟩ ⟨by omega, by omega⟩ (by unfold wv; dsimp only; omega)]
    show (0 : Int) * 18446744073709551616 + 0 + _ = _
    omega
  have hm0 : 0 ≤ mL a b 0 ∧ mL a b 0 < 2251799813685248 := by rw [l0]; omega
  have hh := halves (w := mT a b) (wadd_ok _) (o := mL a b 0) (by omega) (by omega)
  let f : Nat → Int := fun j => match j with
    | 0 => andI .u64 (aS (mT a b).2 (mL a b 0) 0) 2251799813685247
    | 1 => addI .u64 (mL a b 1) (orI .u64 (shlI .u64 (addI .u64 (mT a b).1 (aC (mT a b).2 (mL a b 0) 0)) 13) (shrI .u64 (aS (mT a b).2 (mL a b 0) 0) 51))
    | j => mL a b j
  have f0 : f 0 = (wv (mT a b) + mL a b 0) % 2251799813685248 := low_v
  have f1 : f 1 = mL a b 1 + (wv (mT a b) + mL a b 0) / 2251799813685248 := by
    show addI .u64 _ _ = _
    rw [hh, addU, sm _ (by omega) (by omega)]
  have f2 : f 2 = mL a b 2 := rfl
  have f3 : f 3 = mL a b 3 := rfl
  have f4 : f 4 = mL a b 4 := rfl
  have h := reduce_L (f := f) (five ⟨by omega, by omega, by omega, by omega, by omega⟩)
  have hv : v5 f = v5 a * v5 b - p * (q + sO a b 5) := by
    rw [v5_eq, f0, f1, f2, f3, f4, hT, Int.mul_add p, show v5 a * v5 b - (p * q + p * sO a b 5) = v5 a * v5 b - p * q - p * sO a b 5 by omega, ← hq, l0, l1, l2, l3, l4]
    have s1 : sO a b 1 = (sW a b 0 5 + 0) / 2251799813685248 := rfl
    have s2 : sO a b 2 = (sW a b 1 5 + sO a b 1) / 2251799813685248 := rfl
    have s3 : sO a b 3 = (sW a b 2 5 + sO a b 2) / 2251799813685248 := rfl
    have s4 : sO a b 4 = (sW a b 3 5 + sO a b 3) / 2251799813685248 := rfl
    have s5 : sO a b 5 = (sW a b 4 5 + sO a b 4) / 2251799813685248 := rfl
    have s0 : sO a b 0 = 0 := rfl
    rw [s0]
    unfold p
    omega
  rw [hv, Int.sub_mul_emod_self_left] at h
  exact h

theorem mul_v {x y : Nat → Int} (hx : U5 x) (hy : U5 y) : v5 (mulF x y) = (v5 x * v5 y) % p ∧ R5 (mulF x y) := by
  have cx := carry_small hx
  have cy := carry_small hy
  obtain ⟨h1, h2⟩ := mP_v (a := carryF x) (b := carryF y) (fun j hj => by have := cx j hj; omega) (fun j hj => by have := cy j hj; omega)
  refine ⟨?_, h2⟩
  show v5 (mP (carryF x) (carryF y)) = _
  rw [h1, Int.mul_emod, (carry_v hx).1, (carry_v hy).1, Int.sub_mul_emod_self_left, Int.sub_mul_emod_self_left, ← Int.mul_emod]
end Go.Proofs.Ytbnclikjbnfodaa
