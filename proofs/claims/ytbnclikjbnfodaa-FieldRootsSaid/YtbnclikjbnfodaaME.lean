/-
  The document's products and reduced Elements as numbers. Conditions: none.
-/
import Derived.Test.YtbnclikjbnfodaaMD
namespace Go.Proofs.Ytbnclikjbnfodaa
open Go.Ev Go.Num

/-- The part of a product's digit that the first n digits of a make. -/
def cv (a b : Nat → Int) (k : Nat) : Nat → Int
  | 0 => 0
  | n + 1 => cv a b k n + if n ≤ k ∧ k - n ≤ 9 then a n * b (k - n) else 0

theorem prod_dig {x y : Int} (hx : 0 ≤ x ∧ x < 67108864) (hy : 0 ≤ y ∧ y < 67108864) : 0 ≤ x * y ∧ x * y ≤ 4503599627370496 := by
  refine ⟨Int.mul_nonneg hx.1 hy.1, ?_⟩
  have := Int.mul_le_mul (show x ≤ 67108864 by omega) (show y ≤ 67108864 by omega) hy.1 (by omega)
  omega

theorem cv_bound {a b : Nat → Int} (ha : ∀ j, j < 10 → 0 ≤ a j ∧ a j < 67108864) (hb : ∀ j, j < 10 → 0 ≤ b j ∧ b j < 67108864) (k : Nat) : ∀ n, n ≤ 10 → 0 ≤ cv a b k n ∧ cv a b k n ≤ n * 4503599627370496
  | 0, _ => by simp [cv]
  | n + 1, hn => by
    have ih := cv_bound ha hb k n (by omega)
    simp only [cv]
    split
    · rename_i h
      have := prod_dig (ha n (by omega)) (hb (k - n) (by omega))
      push_cast; omega
    · push_cast; omega

theorem mulD_cv {a b : Nat → Int} (ha : ∀ j, j < 10 → 0 ≤ a j ∧ a j < 67108864) (hb : ∀ j, j < 10 → 0 ≤ b j ∧ b j < 67108864) (k : Nat) : mulD a b k = cv a b k 10 := by
  have key : ∀ n, n ≤ 10 → (List.range n).foldl (fun acc i => bif (Nat.ble i k && Nat.ble (k - i) 9) then addI .u64 acc (mulI .u64 (a i) (b (k - i))) else acc) 0 = cv a b k n := by
    intro n
    induction n with
    | zero => intro _; rfl
    | succ n ih =>
      intro hn
      rw [List.range_succ, List.foldl_append, ih (by omega)]
      simp only [List.foldl_cons, List.foldl_nil, cv]
      have hc := cv_bound ha hb k n (by omega)
      by_cases h : n ≤ k ∧ k - n ≤ 9
      · rw [bleT.2 h.1, bleT.2 h.2, if_pos h]
        have := prod_dig (ha n (by omega)) (hb (k - n) (by omega))
        simp only [Bool.and_self, cond_true]
        rw [addU, mulU, sm (a n * b (k - n)) (by omega) (by omega), sm _ (by omega) (by omega)]
      · rw [if_neg h]
        have : (Nat.ble n k && Nat.ble (k - n) 9) = false := by
          rw [← Bool.not_eq_true, Bool.and_eq_true]
          intro ⟨h1, h2⟩; exact h ⟨bleT.1 h1, bleT.1 h2⟩
        rw [this, cond_false]; omega
  exact key 10 (by omega)

theorem dv_row {B c : Int} {b : Nat → Int} {n : Nat} (hn : n ≤ 10) : dv B 20 (fun k => if n ≤ k ∧ k - n ≤ 9 then c * b (k - n) else 0) = c * (pw B n * dv B 10 b) := by
  obtain ⟨m, rfl⟩ : ∃ m, m = 10 - n := ⟨_, rfl⟩
  rw [show (20 : Nat) = n + (10 + (10 - n)) by omega, dv_split, dv_split]
  have e1 : dv B n (fun k => if n ≤ k ∧ k - n ≤ 9 then c * b (k - n) else 0) = 0 := by
    rw [dv_congr (b := fun _ => 0) (fun i hi => by rw [if_neg (by omega)]), dv_zero]
  have e2 : dv B 10 (fun i => if n ≤ n + i ∧ n + i - n ≤ 9 then c * b (n + i - n) else 0) = c * dv B 10 b := by
    rw [← dv_mul]; exact dv_congr fun i hi => by rw [if_pos (by omega), Nat.add_sub_cancel_left]
  have e3 : dv B (10 - n) (fun i => if n ≤ n + (10 + i) ∧ n + (10 + i) - n ≤ 9 then c * b (n + (10 + i) - n) else 0) = 0 := by
    rw [dv_congr (b := fun _ => 0) (fun i hi => by rw [if_neg (by omega)]), dv_zero]
  rw [e1, e2, e3]
  grind

theorem conv_v (B : Int) (a b : Nat → Int) : ∀ n, n ≤ 10 → dv B 20 (fun k => cv a b k n) = dv B n a * dv B 10 b
  | 0, _ => by simp only [cv, dv_zero]; simp [dv]
  | n + 1, hn => by
    simp only [cv]
    rw [dv_add, conv_v B a b n (by omega), dv_row (by omega), dv_top (n := n) (a := a)]
    generalize dv B 10 b = u
    generalize dv B n a = v
    grind

theorem mulE_bound {a b : Nat → Int} (ha : ∀ j, j < 10 → 0 ≤ a j ∧ a j < 67108864) (hb : ∀ j, j < 10 → 0 ≤ b j ∧ b j < 67108864) : ∀ k, 0 ≤ mulE a b k ∧ mulE a b k ≤ 11 * 4503599627370496
  | 0 => by
    have := cv_bound ha hb 0 10 (by omega)
    simp only [mulE, mulD_cv ha hb]; omega
  | k + 1 => by
    have ih := mulE_bound ha hb k
    have := cv_bound ha hb (k + 1) 10 (by omega)
    simp only [mulE, mulD_cv ha hb, addU, shr26]
    rw [sm _ (by omega) (by omega)]; omega

theorem mulE_step {a b : Nat → Int} (ha : ∀ j, j < 10 → 0 ≤ a j ∧ a j < 67108864) (hb : ∀ j, j < 10 → 0 ≤ b j ∧ b j < 67108864) (k : Nat) : mulE a b (k + 1) = mulD a b (k + 1) + mulE a b k / 67108864 := by
  have ih := mulE_bound ha hb k
  have := cv_bound ha hb (k + 1) 10 (by omega)
  simp only [mulE, mulD_cv ha hb, addU, shr26]
  exact sm _ (by omega) (by omega)

theorem mul_r {a b : Nat → Int} (ha : D10 a) (hb : D10 b) : v10 (rMul a b) = (v10 a * v10 b) % p ∧ D10 (rMul a b) := by
  have hC : ∀ k, k < 19 → mulC a b k = mulE a b k % 67108864 := fun k hk => by
    unfold mulC; rw [ff beqT (by omega), cond_false, and26]
  have hC19 : mulC a b 19 = mulE a b 19 := rfl
  have hv : dv 67108864 20 (mulC a b) = v10 a * v10 b := by
    have := dv_carry (B := 67108864) (n := 19) (a := mulD a b) (c := mulE a b) (o := mulC a b) (t := 0) (by simp [mulE]) (fun i _ => mulE_step ha.dig hb.dig i) hC hC19
    rw [Int.add_zero] at this
    rw [this, show mulD a b = fun k => cv a b k 10 from funext fun k => mulD_cv ha.dig hb.dig k]
    exact conv_v _ a b 10 (by omega)
  have hd19 : mulD a b 19 = 0 := by
    rw [mulD_cv ha.dig hb.dig]; simp [cv]
  have h19 : 0 ≤ mulC a b 19 ∧ mulC a b 19 < 1073741824 := by
    have := mulE_bound ha.dig hb.dig 18
    rw [hC19, mulE_step ha.dig hb.dig 18, hd19]; omega
  have hCb : ∀ k, k < 20 → 0 ≤ mulC a b k ∧ mulC a b k < 1073741824 := fun k hk => by
    by_cases e : k = 19
    · subst e; exact h19
    · rw [hC k (by omega)]; omega
  have hlow : ∀ j, j < 10 → mulLow a b j = mulC a b j + 608 * mulC a b (10 + j) := fun j hj => by
    have h1 := hCb j (by omega); have h2 := hCb (j + 10) (by omega)
    unfold mulLow
    rw [addU, mulU, sm (608 * _) (by omega) (by omega), sm _ (by omega) (by omega), Nat.add_comm j 10]
  have h := least_nf (f := mulLow a b) (fun j hj => by
    have h1 := hCb j (by omega); have h2 := hCb (10 + j) (by omega)
    rw [hlow j hj]; omega)
  have e : v10 (mulLow a b) % p = (v10 a * v10 b) % p := by
    have h1 : v10 (mulLow a b) = dv 67108864 10 (mulC a b) + 608 * dv 67108864 10 fun j => mulC a b (10 + j) := by
      unfold v10; rw [← dv_mul, ← dv_add]; exact dv_congr hlow
    have h2 : dv 67108864 20 (mulC a b) = dv 67108864 10 (mulC a b) + pw 67108864 10 * dv 67108864 10 fun j => mulC a b (10 + j) := dv_split (n := 10) (m := 10)
    have h3 : pw 67108864 10 = 608 + p * 32 := by decide
    rw [h3] at h2
    rw [← hv, h1, h2, Int.add_mul, ← Int.add_assoc, Int.mul_assoc, Int.add_mul_emod_self_left]
  rw [e] at h
  exact h

/-! ### Reduced Elements -/

theorem five {P : Nat → Prop} (h : P 0 ∧ P 1 ∧ P 2 ∧ P 3 ∧ P 4) : ∀ j, j < 5 → P j := by
  intro j hj
  obtain ⟨h0, h1, h2, h3, h4⟩ := h
  have h : j = 0 ∨ j = 1 ∨ j = 2 ∨ j = 3 ∨ j = 4 := by omega
  rcases h with rfl | rfl | rfl | rfl | rfl <;> assumption

theorem limb_v {a : Nat → Int} (h : D10 a) (j : Nat) (hj : j < 5) : elemLimb a j = v10 a / 2251799813685248 ^ j % 2251799813685248 := by
  have e51 : (2251799813685248 : Int) = 2 ^ 51 := by decide
  have e26 : (67108864 : Int) = 2 ^ 26 := by decide
  rw [e51, ← Int.pow_mul, ← bits_sum]
  unfold elemLimb
  have key : ∀ m, m ≤ 51 → (List.range m).foldl (fun acc i => addI .u64 acc (shlI .u64 (andI .u64 (shrI .u64 (a ((51 * j + i) / 26)) (((51 * j + i) % 26 : Nat) : Int)) 1) (i : Int))) 0 =
      (List.range m).foldl (fun acc i => acc + v10 a / 2 ^ (51 * j) / 2 ^ i % 2 * 2 ^ i) 0 ∧ 0 ≤ (List.range m).foldl (fun acc i => acc + v10 a / 2 ^ (51 * j) / 2 ^ i % 2 * 2 ^ i) 0 ∧ (List.range m).foldl (fun acc i => acc + v10 a / 2 ^ (51 * j) / 2 ^ i % 2 * 2 ^ i) 0 < 2 ^ m := by
    intro m
    induction m with
    | zero => intro _; simp
    | succ m ih =>
      intro hm
      obtain ⟨i1, i2, i3⟩ := ih (by omega)
      rw [bits_sum] at *
      refine ⟨?_, Int.emod_nonneg _ (Int.ne_of_gt (pow_pos' (by omega) _)), Int.emod_lt_of_pos _ (pow_pos' (by omega) _)⟩
      rw [List.range_succ, List.foldl_append, i1]
      simp only [List.foldl_cons, List.foldl_nil]
      have hbit : andI .u64 (shrI .u64 (a ((51 * j + m) / 26)) (((51 * j + m) % 26 : Nat) : Int)) 1 = v10 a / 2 ^ (51 * j) / 2 ^ m % 2 := by
        rw [and1, shrU _ _ (by omega), Int.ediv_ediv_of_nonneg (by exact Int.le_of_lt (pow_pos' (by omega) _)), ← Int.pow_add]
        have := digit_bit (k := 26) (a := a) (n := 10) (m := (51 * j + m) / 26) (r := (51 * j + m) % 26) (fun i hi => by rw [← e26]; exact h.dig i hi) (by omega) (by omega)
        rw [Nat.div_add_mod, ← e26] at this
        exact this.symm
      rw [hbit]
      have hfin : v10 a / 2 ^ (51 * j) % 2 ^ m + v10 a / 2 ^ (51 * j) / 2 ^ m % 2 * 2 ^ m = v10 a / 2 ^ (51 * j) % 2 ^ (m + 1) := by
        have := emod_mul' (B := 2 ^ m) (C := 2) (N := v10 a / 2 ^ (51 * j)) (pow_pos' (by omega) m) (by omega)
        rw [Int.pow_succ, ← this, Int.mul_comm (_ % 2)]
      have hb2 : 0 ≤ v10 a / 2 ^ (51 * j) / 2 ^ m % 2 ∧ v10 a / 2 ^ (51 * j) / 2 ^ m % 2 ≤ 1 := by omega
      generalize v10 a / 2 ^ (51 * j) / 2 ^ m % 2 = t at *
      have hpm : (2 : Int) ^ m ≤ 2 ^ 50 := by
        have : 2 ^ m ≤ 2 ^ 50 := Nat.pow_le_pow_right (by omega) (by omega)
        exact_mod_cast this
      have h50 : (2 : Int) ^ 50 = 1125899906842624 := by decide
      have hp0 : (0 : Int) < 2 ^ m := pow_pos' (by omega) m
      have ht : 0 ≤ t * 2 ^ m ∧ t * 2 ^ m ≤ 1125899906842624 := by
        have h01 : t = 0 ∨ t = 1 := by omega
        rcases h01 with rfl | rfl <;> omega
      rw [shlU _ _ (by omega), addU, sm (t * 2 ^ m) (by omega) (by omega)]
      have : v10 a / 2 ^ (51 * j) % 2 ^ m < 2 ^ m := i3
      rw [sm _ (by omega) (by omega)]
      exact hfin
  exact (key 51 (by omega)).1

theorem element_r {a : Nat → Int} (h : D10 a) : v5 (rElement a) = v10 a ∧ R5 (rElement a) := by
  have e : v5 (rElement a) = v10 a := by
    unfold v5
    have hc : dv 2251799813685248 5 (rElement a) = dv 2251799813685248 5 fun j => v10 a / 2251799813685248 ^ j % 2251799813685248 := dv_congr fun j hj => limb_v h j hj
    rw [hc, dv_digits (by omega)]
    have hb := h.lt
    have h0 := h.nonneg
    refine Int.emod_eq_of_lt h0 ?_
    have : (2251799813685248 : Int) ^ 5 = p + 19 := by decide
    omega
  refine ⟨e, fun j hj => ?_, by rw [e]; exact h.lt⟩
  show 0 ≤ elemLimb a j ∧ elemLimb a j < _
  rw [limb_v h j hj]; omega

end Go.Proofs.Ytbnclikjbnfodaa
