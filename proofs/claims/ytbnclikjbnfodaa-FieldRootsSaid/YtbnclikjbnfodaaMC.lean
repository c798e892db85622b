/-
  Numbers modulo p = 2^255 - 19: what the program's limbs and the document's digits come to. Conditions: none.
-/
import Derived.Test.YtbnclikjbnfodaaWG
import Derived.Test.YtbnclikjbnfodaaMB
namespace Go.Proofs.Ytbnclikjbnfodaa
open Go.Ev Go.Num

def p : Int := 57896044618658097711785492504343953926634992332820282019728792003956564819949
def v5 (x : Nat → Int) : Int := dv 2251799813685248 5 x
def v10 (a : Nat → Int) : Int := dv 67108864 10 a
/-- Ten digits below 2^26, the number below p. -/
structure D10 (a : Nat → Int) : Prop where
  dig : ∀ j, j < 10 → 0 ≤ a j ∧ a j < 67108864
  lt : v10 a < p
def U5 (x : Nat → Int) : Prop := ∀ j, j < 5 → 0 ≤ x j ∧ x j < 18446744073709551616
structure R5 (x : Nat → Int) : Prop where
  lim : ∀ j, j < 5 → 0 ≤ x j ∧ x j < 2251799813685248
  lt : v5 x < p
theorem R5.u {x : Nat → Int} (h : R5 x) : U5 x := fun j hj => by have := h.lim j hj; omega
theorem R5.nonneg {x : Nat → Int} (h : R5 x) : 0 ≤ v5 x := (dv_bound (by omega) h.lim).1
theorem D10.nonneg {x : Nat → Int} (h : D10 x) : 0 ≤ v10 x := (dv_bound (by omega) h.dig).1
theorem p_pos : 0 < p := by decide

theorem v5_eq (x : Nat → Int) : v5 x = x 0 + 2251799813685248 * (x 1 + 2251799813685248 * (x 2 + 2251799813685248 * (x 3 + 2251799813685248 * x 4))) := by
  simp [v5, dv]
theorem v10_eq (x : Nat → Int) : v10 x = x 0 + 67108864 * (x 1 + 67108864 * (x 2 + 67108864 * (x 3 + 67108864 * (x 4 + 67108864 * (x 5 + 67108864 * (x 6 + 67108864 * (x 7 + 67108864 * (x 8 + 67108864 * x 9)))))))) := by
  simp [v10, dv]

theorem sm (x : Int) (h0 : 0 ≤ x) (h1 : x < 18446744073709551616) : x % 18446744073709551616 = x := Int.emod_eq_of_lt h0 h1

/-! ### The document's digits -/

theorem cc_bound {a : Nat → Int} (h : ∀ j, j < 10 → 0 ≤ a j ∧ a j < 1152921504606846976) : ∀ n, n < 10 → 0 ≤ cc a n ∧ cc a n < 2305843009213693952
  | 0, _ => by have := h 0 (by omega); simp only [cc]; omega
  | n + 1, hn => by
    have ih := cc_bound h n (by omega)
    have := h (n + 1) hn
    simp only [cc, addU, shr26]
    rw [sm _ (by omega) (by omega)]; omega
theorem cc_step {a : Nat → Int} (h : ∀ j, j < 10 → 0 ≤ a j ∧ a j < 1152921504606846976) (n : Nat) (hn : n + 1 < 10) : cc a (n + 1) = a (n + 1) + cc a n / 67108864 := by
  have ih := cc_bound h n (by omega)
  have := h (n + 1) hn
  simp only [cc, addU, shr26]
  exact sm _ (by omega) (by omega)

theorem carried_v {a : Nat → Int} (h : ∀ j, j < 10 → 0 ≤ a j ∧ a j < 1152921504606846976) :
    v10 (rCarried a) = v10 a ∧ (∀ j, j < 9 → 0 ≤ rCarried a j ∧ rCarried a j < 67108864) ∧ 0 ≤ rCarried a 9 ∧ rCarried a 9 < 2305843009213693952 := by
  refine ⟨?_, carried_at a, (cc_bound h 9 (by omega))⟩
  have := dv_carry (B := 67108864) (n := 9) (a := a) (c := cc a) (o := rCarried a) (t := 0) (by simp [cc]) (fun i hi => cc_step h i (by omega)) (fun i hi => by rw [carried_cc a i hi, and26]) rfl
  simpa [v10] using this

theorem fold_v {a : Nat → Int} (h : ∀ j, j < 9 → 0 ≤ a j ∧ a j < 67108864) (h9 : 0 ≤ a 9 ∧ a 9 < 18446744073709551616) : v10 (rFold a) = v10 a - p * (a 9 / 2097152) ∧ 0 ≤ v10 (rFold a) := by
  unfold rFold
  have b0 := h 0 (by omega)
  have q9 : 0 ≤ a 9 / 2097152 ∧ a 9 / 2097152 ≤ 8796093022207 := by omega
  have e0 : addI .u64 (a 0) (mulI .u64 19 (shrI .u64 (a 9) 21)) = a 0 + 19 * (a 9 / 2097152) := by
    rw [addU, mulU, shr21, sm (19 * _) (by omega) (by omega), sm _ (by omega) (by omega)]
  have hb : ∀ j, j < 10 → 0 ≤ up 9 (andI .u64 (a 9) 2097151) (up 0 (addI .u64 (a 0) (mulI .u64 19 (shrI .u64 (a 9) 21))) a) j ∧ up 9 (andI .u64 (a 9) 2097151) (up 0 (addI .u64 (a 0) (mulI .u64 19 (shrI .u64 (a 9) 21))) a) j < 1152921504606846976 := by
    intro j hj
    rw [up_at, up_at]
    split
    · rw [and21]; omega
    · split
      · rw [e0]; omega
      · have := h j (by omega); omega
  obtain ⟨hv, hd, hn⟩ := carried_v hb
  rw [hv]
  refine ⟨?_, ?_⟩
  · rw [v10_eq, v10_eq]
    simp only [up_at]
    simp only [e0, and21, p]
    simp only [if_true, if_false, show ((0 : Nat) = 9) = False by simp, show ((1 : Nat) = 9) = False by simp, show ((2 : Nat) = 9) = False by simp, show ((3 : Nat) = 9) = False by simp, show ((4 : Nat) = 9) = False by simp, show ((5 : Nat) = 9) = False by simp, show ((6 : Nat) = 9) = False by simp, show ((7 : Nat) = 9) = False by simp, show ((8 : Nat) = 9) = False by simp, show ((1 : Nat) = 0) = False by simp, show ((2 : Nat) = 0) = False by simp, show ((3 : Nat) = 0) = False by simp, show ((4 : Nat) = 0) = False by simp, show ((5 : Nat) = 0) = False by simp, show ((6 : Nat) = 0) = False by simp, show ((7 : Nat) = 0) = False by simp, show ((8 : Nat) = 0) = False by simp]
    omega
  · rw [← hv, v10, dv_top]
    have := (dv_bound (B := 67108864) (n := 9) (by omega) hd).1
    have hp := pw_pos (B := 67108864) (by omega) 9
    have := Int.mul_nonneg (Int.le_of_lt hp) hn.1
    omega

theorem below_ltB (a b : Nat → Int) : rBelow a b = ltB a b 10 := rfl

theorem prime_v : v10 rPrime = p := by decide
theorem prime_dig : ∀ j, j < 10 → 0 ≤ rPrime j ∧ rPrime j < 67108864 := by decide

/-- The chain of borrows. -/
def ud (a b : Nat → Int) : Nat → Int × Int
  | 0 => (0, subI .u64 (subI .u64 (addI .u64 (addI .u64 (a 0) 67108863) 1) (b 0)) 0)
  | n + 1 => (subI .u64 1 (shrI .u64 (ud a b n).2 26), subI .u64 (subI .u64 (addI .u64 (addI .u64 (a (n + 1)) 67108863) 1) (b (n + 1))) (subI .u64 1 (shrI .u64 (ud a b n).2 26)))

theorem less_ud (a b : Nat → Int) (j : Nat) (hj : j < 10) : rLess a b j = andI .u64 (ud a b j).2 67108863 := by
  have h : j = 0 ∨ j = 1 ∨ j = 2 ∨ j = 3 ∨ j = 4 ∨ j = 5 ∨ j = 6 ∨ j = 7 ∨ j = 8 ∨ j = 9 := by omega
  rcases h with rfl | rfl | rfl | rfl | rfl | rfl | rfl | rfl | rfl | rfl <;> rfl

theorem ud_spec {a b : Nat → Int} (ha : ∀ j, j < 10 → 0 ≤ a j ∧ a j < 67108864) (hb : ∀ j, j < 10 → 0 ≤ b j ∧ b j < 67108864) : ∀ n, n < 10 →
    (0 ≤ (ud a b n).1 ∧ (ud a b n).1 ≤ 1) ∧ (ud a b n).2 = a n + 67108864 - b n - (ud a b n).1 ∧ 0 ≤ (ud a b n).2 ∧ (ud a b n).2 < 134217728
  | 0, _ => by
    have := ha 0 (by omega); have := hb 0 (by omega)
    simp only [ud, addU, subU]
    rw [sm (a 0 + 67108863) (by omega) (by omega), sm _ (by omega) (by omega), sm _ (by omega) (by omega), sm _ (by omega) (by omega)]; omega
  | n + 1, hn => by
    obtain ⟨_, _, h3, h4⟩ := ud_spec ha hb n (by omega)
    have := ha (n + 1) hn; have := hb (n + 1) hn
    have q : 0 ≤ (ud a b n).2 / 67108864 ∧ (ud a b n).2 / 67108864 ≤ 1 := by omega
    have e : subI .u64 1 (shrI .u64 (ud a b n).2 26) = 1 - (ud a b n).2 / 67108864 := by
      rw [subU, shr26, sm _ (by omega) (by omega)]
    have e2 : (ud a b (n + 1)).1 = 1 - (ud a b n).2 / 67108864 := e
    have e3 : (ud a b (n + 1)).2 = a (n + 1) + 67108864 - b (n + 1) - (1 - (ud a b n).2 / 67108864) := by
      simp only [ud]; rw [e, addU, addU, subU, subU]
      rw [sm (a (n + 1) + 67108863) (by omega) (by omega), sm _ (by omega) (by omega), sm _ (by omega) (by omega), sm _ (by omega) (by omega)]; omega
    rw [e2, e3]; omega

theorem less_v {a b : Nat → Int} (ha : ∀ j, j < 10 → 0 ≤ a j ∧ a j < 67108864) (hb : ∀ j, j < 10 → 0 ≤ b j ∧ b j < 67108864) (hle : v10 b ≤ v10 a) :
    v10 (rLess a b) = v10 a - v10 b ∧ ∀ j, j < 10 → 0 ≤ rLess a b j ∧ rLess a b j < 67108864 := by
  have hdig : ∀ j, j < 10 → 0 ≤ rLess a b j ∧ rLess a b j < 67108864 := fun j hj => by rw [less_ud a b j hj, and26]; omega
  refine ⟨?_, hdig⟩
  let u : Nat → Int := fun i => match i with | 0 => 0 | i + 1 => 1 - (ud a b i).2 / 67108864
  have hu : ∀ i, i < 10 → (ud a b i).1 = u i := by
    intro i hi
    cases i with
    | zero => rfl
    | succ i =>
      obtain ⟨_, _, h3, h4⟩ := ud_spec ha hb i (by omega)
      show subI .u64 1 (shrI .u64 (ud a b i).2 26) = 1 - (ud a b i).2 / 67108864
      rw [subU, shr26, sm _ (by omega) (by omega)]
  have hb2 := dv_borrow (B := 67108864) (by omega) (n := 10) (a := a) (b := b) (d := fun i => (ud a b i).2) (u := u) (o := rLess a b)
    (fun i hi => by rw [← hu i hi]; exact (ud_spec ha hb i hi).2.1) (fun i hi => rfl) (fun i hi => by rw [less_ud a b i hi, and26])
  have h9 := ud_spec ha hb 9 (by omega)
  have hu10 : u 10 = 0 ∨ u 10 = 1 := by
    show (1 - (ud a b 9).2 / 67108864 = 0) ∨ (1 - (ud a b 9).2 / 67108864 = 1)
    omega
  have hlt := dv_bound (B := 67108864) (n := 10) (by omega) hdig
  have hu0 : u 0 = 0 := rfl
  unfold v10 at *
  rw [hu0] at hb2
  rcases hu10 with h | h
  · rw [h] at hb2; omega
  · rw [h] at hb2; omega

theorem fin_v {a : Nat → Int} (h : ∀ j, j < 10 → 0 ≤ a j ∧ a j < 67108864) (hv : v10 a < 2 * p) : v10 (rFin a) = v10 a % p ∧ D10 (rFin a) := by
  have hb : rBelow a rPrime = decide (v10 a < p) := by
    rw [below_ltB, ltB_spec (B := 67108864) (by omega) h prime_dig]
    show decide (v10 a < v10 rPrime) = _
    rw [prime_v]
  have hp := p_pos
  have h0 : 0 ≤ v10 a := (dv_bound (by omega) h).1
  unfold rFin
  rw [hb]
  by_cases hlt : v10 a < p
  · have e : (!decide (v10 a < p)) = false := by simp [hlt]
    rw [e, cond_false]
    exact ⟨(Int.emod_eq_of_lt h0 hlt).symm, h, hlt⟩
  · have e : (!decide (v10 a < p)) = true := by simp [hlt]
    rw [e, cond_true]
    obtain ⟨l1, l2⟩ := less_v h prime_dig (by rw [prime_v]; omega)
    rw [prime_v] at l1
    have : v10 a % p = v10 a - p := by
      rw [← Int.sub_emod_right, Int.emod_eq_of_lt (by omega) (by omega)]
    exact ⟨by rw [l1, this], l2, by rw [l1]; omega⟩

theorem least_v {a : Nat → Int} (h : ∀ j, j < 10 → 0 ≤ a j ∧ a j < 1152921504606846976) : v10 (rLeast a) = v10 a % p ∧ D10 (rLeast a) := by
  obtain ⟨c1, c2, c3⟩ := carried_v h
  have hp : p = 57896044618658097711785492504343953926634992332820282019728792003956564819949 := rfl
  have small : ∀ {b : Nat → Int}, (∀ j, j < 9 → 0 ≤ b j ∧ b j < 67108864) → 0 ≤ b 9 → b 9 ≤ 2097151 → (∀ j, j < 10 → 0 ≤ b j ∧ b j < 67108864) ∧ v10 b < 2 * p := by
    intro b h1 h2 h3
    refine ⟨fun j hj => ?_, ?_⟩
    · by_cases e : j = 9
      · subst e; omega
      · exact h1 j (by omega)
    · have := (dv_bound (B := 67108864) (n := 9) (by omega) h1).2
      rw [v10, dv_top]
      simp only [pw] at *
      omega
  unfold rLeast
  cases h1 : decide (rCarried a 9 > 2097151) with
  | false =>
    have h1 := of_decide_eq_false h1
    rw [cond_false]
    obtain ⟨s1, s2⟩ := small c2 c3.1 (by omega)
    have := fin_v s1 s2
    rwa [c1] at this
  | true =>
    rw [cond_true]
    have f1 := fold_small (rCarried a) c2 ⟨c3.1, by omega⟩
    have g1 := fold_v c2 ⟨c3.1, by omega⟩
    have m1 : v10 (rFold (rCarried a)) % p = v10 a % p := by
      rw [g1.1, c1, Int.sub_mul_emod_self_left]
    cases h2 : decide (rFold (rCarried a) 9 > 2097151) with
    | false =>
      have h2 := of_decide_eq_false h2
      rw [cond_false]
      obtain ⟨s1, s2⟩ := small f1.2.1 f1.2.2 (by omega)
      have := fin_v s1 s2
      rwa [m1] at this
    | true =>
      have h2 := of_decide_eq_true h2
      rw [cond_true]
      have f2 := fold_small (rFold (rCarried a)) f1.2.1 ⟨f1.2.2, by omega⟩
      have g2 := fold_v f1.2.1 ⟨f1.2.2, by omega⟩
      have m2 : v10 (rFold (rFold (rCarried a))) % p = v10 a % p := by
        rw [g2.1, Int.sub_mul_emod_self_left, m1]
      obtain ⟨s1, s2⟩ := small f2.2.1 f2.2.2 (by omega)
      have := fin_v s1 s2
      rwa [m2] at this

end Go.Proofs.Ytbnclikjbnfodaa
