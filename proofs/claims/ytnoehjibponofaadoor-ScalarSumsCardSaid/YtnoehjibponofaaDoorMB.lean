/-
  Digits: the number of a row of digits, carries, borrows, comparison. Plain. Conditions: none.
-/
import Derived.Test.YtnoehjibponofaaDoorMA
namespace Go.Num

/-- The number of the first n digits to the base B, the lowest first. -/
def dv (B : Int) : Nat → (Nat → Int) → Int
  | 0, _ => 0
  | n + 1, a => a 0 + B * dv B n fun i => a (i + 1)
def pw (B : Int) : Nat → Int
  | 0 => 1
  | n + 1 => B * pw B n

theorem sm' (x : Int) (h0 : 0 ≤ x) (h1 : x < 18446744073709551616) : x % 18446744073709551616 = x := Int.emod_eq_of_lt h0 h1
theorem pw_pos {B : Int} (hB : 0 < B) : ∀ n, 0 < pw B n
  | 0 => by simp [pw]
  | n + 1 => Int.mul_pos hB (pw_pos hB n)

theorem dv_congr {B : Int} : ∀ {n : Nat} {a b : Nat → Int}, (∀ i, i < n → a i = b i) → dv B n a = dv B n b
  | 0, _, _, _ => rfl
  | n + 1, a, b, h => by
    simp only [dv]
    rw [h 0 (by omega), dv_congr (a := fun i => a (i + 1)) (b := fun i => b (i + 1)) fun i hi => h (i + 1) (by omega)]

theorem dv_add {B : Int} : ∀ {n : Nat} {a b : Nat → Int}, dv B n (fun i => a i + b i) = dv B n a + dv B n b
  | 0, _, _ => rfl
  | n + 1, a, b => by
    simp only [dv]
    rw [dv_add (a := fun i => a (i + 1)) (b := fun i => b (i + 1)), Int.mul_add]; omega
theorem dv_mul {B c : Int} : ∀ {n : Nat} {a : Nat → Int}, dv B n (fun i => c * a i) = c * dv B n a
  | 0, _ => by simp [dv]
  | n + 1, a => by
    simp only [dv]
    rw [dv_mul (a := fun i => a (i + 1)), Int.mul_add, Int.mul_left_comm]
theorem dv_zero {B : Int} : ∀ {n : Nat}, dv B n (fun _ => 0) = 0
  | 0 => rfl
  | n + 1 => by simp only [dv]; rw [dv_zero]; simp
/-- The topmost digit split off. -/
theorem dv_top {B : Int} : ∀ {n : Nat} {a : Nat → Int}, dv B (n + 1) a = dv B n a + pw B n * a n
  | 0, a => by simp [dv, pw]
  | n + 1, a => by
    rw [dv, dv_top, dv, pw]
    rw [Int.mul_add, Int.mul_assoc]; omega
theorem dv_split {B : Int} {m : Nat} : ∀ {n : Nat} {a : Nat → Int}, dv B (n + m) a = dv B n a + pw B n * dv B m fun i => a (n + i)
  | 0, a => by simp [dv, pw]
  | n + 1, a => by
    rw [show n + 1 + m = (n + m) + 1 by omega, dv, dv_split, dv, pw]
    rw [Int.mul_add, Int.mul_assoc, show (fun i => a (n + i + 1)) = (fun i => a (n + 1 + i)) from funext fun i => by congr 1; omega]; omega

theorem dv_bound {B : Int} (hB : 0 < B) : ∀ {n : Nat} {a : Nat → Int}, (∀ i, i < n → 0 ≤ a i ∧ a i < B) → 0 ≤ dv B n a ∧ dv B n a < pw B n
  | 0, _, _ => by simp [dv, pw]
  | n + 1, a, h => by
    have h0 := h 0 (by omega)
    obtain ⟨i0, i1⟩ := dv_bound hB (a := fun i => a (i + 1)) (n := n) fun i hi => h (i + 1) (by omega)
    simp only [dv, pw]
    refine ⟨Int.add_nonneg h0.1 (Int.mul_nonneg (by omega) i0), ?_⟩
    have h2 : dv B n (fun i => a (i + 1)) + 1 ≤ pw B n := by omega
    have h3 := Int.mul_le_mul_of_nonneg_left h2 (by omega : 0 ≤ B)
    rw [Int.mul_add] at h3
    omega

theorem dv_inj {B : Int} (hB : 0 < B) : ∀ {n : Nat} {a b : Nat → Int}, (∀ i, i < n → 0 ≤ a i ∧ a i < B) → (∀ i, i < n → 0 ≤ b i ∧ b i < B) → dv B n a = dv B n b → ∀ i, i < n → a i = b i
  | 0, _, _, _, _, _, i, hi => by omega
  | n + 1, a, b, ha, hb, h, i, hi => by
    simp only [dv] at h
    have a0 := ha 0 (by omega)
    have b0 := hb 0 (by omega)
    have e : a 0 = b 0 := by
      have h1 := congrArg (· % B) h
      simp only [Int.add_mul_emod_self_left] at h1
      rwa [Int.emod_eq_of_lt a0.1 a0.2, Int.emod_eq_of_lt b0.1 b0.2] at h1
    rw [e] at h
    have h2 : B * dv B n (fun i => a (i + 1)) = B * dv B n (fun i => b (i + 1)) := by omega
    have h3 := Int.eq_of_mul_eq_mul_left (by omega) h2
    cases i with
    | zero => exact e
    | succ i => exact dv_inj hB (a := fun i => a (i + 1)) (b := fun i => b (i + 1)) (fun i hi => ha (i + 1) (by omega)) (fun i hi => hb (i + 1) (by omega)) h3 i (by omega)

/-- Carries: c is the chain, o what stays; t comes in at the lowest. -/
theorem dv_carry {B : Int} : ∀ {n : Nat} {a c o : Nat → Int} {t : Int}, c 0 = a 0 + t → (∀ i, i < n → c (i + 1) = a (i + 1) + c i / B) → (∀ i, i < n → o i = c i % B) → o n = c n → dv B (n + 1) o = dv B (n + 1) a + t
  | 0, a, c, o, t, h0, _, _, ho => by simp only [dv]; rw [ho, h0]; omega
  | n + 1, a, c, o, t, h0, hs, ho, hn => by
    have ih := dv_carry (B := B) (n := n) (a := fun i => a (i + 1)) (c := fun i => c (i + 1)) (o := fun i => o (i + 1)) (t := c 0 / B) (hs 0 (by omega)) (fun i hi => hs (i + 1) (by omega)) (fun i hi => ho (i + 1) (by omega)) hn
    have e1 : dv B (n + 1 + 1) o = o 0 + B * dv B (n + 1) (fun i => o (i + 1)) := rfl
    have e2 : dv B (n + 1 + 1) a = a 0 + B * dv B (n + 1) (fun i => a (i + 1)) := rfl
    rw [e1, e2, ih, ho 0 (by omega), Int.mul_add]
    have := Int.emod_add_mul_ediv (c 0) B
    omega

/-- Borrows: d is the difference at a digit with the base lent, u what is owed. -/
theorem dv_borrow {B : Int} (hB : 0 < B) : ∀ {n : Nat} {a b d u o : Nat → Int}, (∀ i, i < n → d i = a i + B - b i - u i) → (∀ i, i < n → u (i + 1) = 1 - d i / B) → (∀ i, i < n → o i = d i % B) → dv B n o = dv B n a - dv B n b - u 0 + pw B n * u n
  | 0, a, b, d, u, o, _, _, _ => by simp only [dv, pw]; omega
  | n + 1, a, b, d, u, o, hd, hu, ho => by
    have ih := dv_borrow hB (n := n) (a := fun i => a (i + 1)) (b := fun i => b (i + 1)) (d := fun i => d (i + 1)) (u := fun i => u (i + 1)) (o := fun i => o (i + 1)) (fun i hi => hd (i + 1) (by omega)) (fun i hi => hu (i + 1) (by omega)) (fun i hi => ho (i + 1) (by omega))
    simp only [dv, pw]
    rw [ih, ho 0 (by omega)]
    have h1 := Int.emod_add_mul_ediv (d 0) B
    have h2 := hd 0 (by omega)
    have h3 := hu 0 (by omega)
    rw [Nat.zero_add] at h3
    simp only [Nat.zero_add]
    have h4 : B * (dv B n (fun i => a (i + 1)) - dv B n (fun i => b (i + 1)) - u 1 + pw B n * u (n + 1)) = B * dv B n (fun i => a (i + 1)) - B * dv B n (fun i => b (i + 1)) - B * u 1 + B * pw B n * u (n + 1) := by grind
    have h5 : B * u 1 = B - B * (d 0 / B) := by rw [h3]; grind
    omega

/-- Is a below b, from the topmost digit down? -/
def ltB (a b : Nat → Int) : Nat → Bool
  | 0 => false
  | n + 1 => cond (a n != b n) (decide (a n < b n)) (ltB a b n)

theorem ltB_spec {B : Int} (hB : 0 < B) : ∀ {n : Nat} {a b : Nat → Int}, (∀ i, i < n → 0 ≤ a i ∧ a i < B) → (∀ i, i < n → 0 ≤ b i ∧ b i < B) → ltB a b n = decide (dv B n a < dv B n b)
  | 0, _, _, _, _ => by simp [ltB, dv]
  | n + 1, a, b, ha, hb => by
    have ih := ltB_spec hB (n := n) (a := a) (b := b) (fun i hi => ha i (by omega)) (fun i hi => hb i (by omega))
    obtain ⟨a0, a1⟩ := dv_bound hB (n := n) (a := a) (fun i hi => ha i (by omega))
    obtain ⟨b0, b1⟩ := dv_bound hB (n := n) (a := b) (fun i hi => hb i (by omega))
    rw [dv_top, dv_top, ltB, ih]
    have hp := pw_pos hB n
    by_cases h : a n = b n
    · rw [h]; simp
    · have hne : (a n != b n) = true := by simpa using h
      rw [hne, cond_true]
      by_cases hlt : a n < b n
      · have : pw B n * (a n + 1) ≤ pw B n * b n := Int.mul_le_mul_of_nonneg_left (by omega) (by omega)
        rw [Int.mul_add] at this
        have h2 : dv B n a + pw B n * a n < dv B n b + pw B n * b n := by omega
        simp [hlt, h2]
      · have : pw B n * (b n + 1) ≤ pw B n * a n := Int.mul_le_mul_of_nonneg_left (by omega) (by omega)
        rw [Int.mul_add] at this
        have h2 : ¬ dv B n a + pw B n * a n < dv B n b + pw B n * b n := by omega
        simp [hlt, h2]

end Go.Num
