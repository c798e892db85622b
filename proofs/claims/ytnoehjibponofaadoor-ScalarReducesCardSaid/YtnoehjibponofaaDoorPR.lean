/-
  Scalars as rows of bytes; the laws of halves and of the one form answer true. Conditions: none.
-/
import Derived.Test.YtnoehjibponofaaDoorPQ
import Derived.Test.YtnoehjibponofaaDoorPP
import Derived.Test.YtnoehjibponofaaDoorMX
namespace Go.Proofs.YtnoehjibponofaaDoor
open Go.Ev Go.Num
def By (n : Nat) (a : Nat → Int) : Prop := ∀ j, j < n → 0 ≤ a j ∧ a j < 256
theorem by_up {v : Int} (h0 : 0 ≤ v) (h1 : v < 256) (n : Nat) : By n (up 0 v (fun _ => 0)) := by
  intro j _
  rw [up_at]
  split
  · exact ⟨h0, h1⟩
  · exact ⟨by omega, by omega⟩
theorem by_stF (N : Int) (n : Nat) : By n (stF N) := fun j _ => by unfold stF; exact ⟨by omega, by omega⟩
theorem ld_bytes {f : Nat → Int} {a : Nat} : ∀ {k : Nat}, k ≤ 8 → (∀ j, j < k → 0 ≤ f (a + j) ∧ f (a + j) < 256) → ldR f a k = dv 256 k fun j => f (a + j)
  | 0, _, _ => rfl
  | k + 1, hk, h => by
    have ih := ld_bytes (f := f) (a := a) (k := k) (by omega) fun j hj => h j (by omega)
    have hb := dv_bound (B := 256) (by omega) (n := k) (a := fun j => f (a + j)) fun j hj => h j (by omega)
    obtain ⟨h0, h1⟩ := h k (by omega)
    have hp : (0 : Int) < 256 ^ k := Int.pow_pos (by omega)
    have hp1 : (256 : Int) ^ (k + 1) ≤ 18446744073709551616 := by
      have h1 : (256 : Nat) ^ (k + 1) ≤ 256 ^ 8 := Nat.pow_le_pow_right (by omega) hk
      have h2 : (256 : Nat) ^ 8 = 18446744073709551616 := by decide
      have h3 : ((256 ^ (k + 1) : Nat) : Int) = 256 ^ (k + 1) := by simp
      omega
    have e256 : (256 : Int) ^ k = 2 ^ (8 * k) := by rw [Int.pow_mul]; rfl
    rw [pw_eq] at hb
    rw [dv_top, pw_eq, ldR, ih]
    generalize dv 256 k (fun j => f (a + j)) = x at *
    generalize f (a + k) = y at *
    have hw : IntKind.wrap .u64 y = y := by rw [wrap_u64]; omega
    have e : (256 : Int) ^ (k + 1) = 256 ^ k * 256 := Int.pow_succ _ _
    have hm : y * 256 ^ k ≤ 255 * 256 ^ k := Int.mul_le_mul_of_nonneg_right (by omega) (by omega)
    have hn : 0 ≤ y * 256 ^ k := Int.mul_nonneg h0 (by omega)
    have hs : shlI .u64 y ((8 * k : Nat) : Int) = y * 2 ^ (8 * k) := by
      rw [shlU _ (8 * k) (by omega), ← e256, sm _ hn (by omega)]
    rw [hw, hs, or_add x y (8 * k) hb.1 (by rw [← e256]; exact hb.2) h0 (by rw [← e256]; omega), ← e256, Int.mul_comm]
theorem lvn_bytes {f : Nat → Int} : ∀ {q : Nat}, By (8 * q) f → lvn q (fun j => ldR f (8 * j) 8) = dv 256 (8 * q) f
  | 0, _ => rfl
  | q + 1, h => by
    have ih := lvn_bytes (f := f) (q := q) fun j hj => h j (by omega)
    rw [lvn, ih, ld_bytes (Nat.le_refl 8) (fun j hj => h (8 * q + j) (by omega)), show 8 * (q + 1) = 8 * q + 8 by omega, dv_split, pw_eq, Int.pow_mul, Int.mul_comm]
    rfl
theorem num_bytes {a : Nat → Int} (h : By 32 a) : num a = dv 256 32 a := by
  have := lvn_bytes (q := 4) h
  unfold num
  rw [loadO_eq]
  rw [← this]
  rfl
theorem wide_bytes {w : Nat → Int} (h : By 64 w) : lvn 8 (wideO w) = dv 256 64 w := by
  have := lvn_bytes (q := 8) h
  rw [wideO_eq, ← this]
theorem st_bytes {a : Nat → Int} (h : By 32 a) : ∀ j, j < 32 → stF (num a) j = a j := by
  have hb := dv_bound (B := 256) (by omega) h
  rw [num_bytes h]
  refine dv_inj (B := 256) (by omega) (fun i _ => by_stF _ 32 i (by omega)) h ?_
  have := dv_digits (B := 256) (by omega) (n := 32) (N := dv 256 32 a)
  rw [pw_eq] at hb
  exact this.trans (Int.emod_eq_of_lt hb.1 hb.2)
theorem shift_lo (a b : Nat → Int) : ∀ j, j < 32 → shiftF a b j = a j := by
  intro j hj
  have : j = 0 ∨ j = 1 ∨ j = 2 ∨ j = 3 ∨ j = 4 ∨ j = 5 ∨ j = 6 ∨ j = 7 ∨ j = 8 ∨ j = 9 ∨ j = 10 ∨ j = 11 ∨ j = 12 ∨ j = 13 ∨ j = 14 ∨ j = 15 ∨ j = 16 ∨ j = 17 ∨ j = 18 ∨ j = 19 ∨ j = 20 ∨ j = 21 ∨ j = 22 ∨ j = 23 ∨ j = 24 ∨ j = 25 ∨ j = 26 ∨ j = 27 ∨ j = 28 ∨ j = 29 ∨ j = 30 ∨ j = 31 := by omega
  rcases this with rfl | rfl | rfl | rfl | rfl | rfl | rfl | rfl | rfl | rfl | rfl | rfl | rfl | rfl | rfl | rfl | rfl | rfl | rfl | rfl | rfl | rfl | rfl | rfl | rfl | rfl | rfl | rfl | rfl | rfl | rfl | rfl <;> rfl
theorem shift_hi (a b : Nat → Int) : ∀ j, j < 32 → shiftF a b (32 + j) = b j := by
  intro j hj
  have : j = 0 ∨ j = 1 ∨ j = 2 ∨ j = 3 ∨ j = 4 ∨ j = 5 ∨ j = 6 ∨ j = 7 ∨ j = 8 ∨ j = 9 ∨ j = 10 ∨ j = 11 ∨ j = 12 ∨ j = 13 ∨ j = 14 ∨ j = 15 ∨ j = 16 ∨ j = 17 ∨ j = 18 ∨ j = 19 ∨ j = 20 ∨ j = 21 ∨ j = 22 ∨ j = 23 ∨ j = 24 ∨ j = 25 ∨ j = 26 ∨ j = 27 ∨ j = 28 ∨ j = 29 ∨ j = 30 ∨ j = 31 := by omega
  rcases this with rfl | rfl | rfl | rfl | rfl | rfl | rfl | rfl | rfl | rfl | rfl | rfl | rfl | rfl | rfl | rfl | rfl | rfl | rfl | rfl | rfl | rfl | rfl | rfl | rfl | rfl | rfl | rfl | rfl | rfl | rfl | rfl <;> rfl
theorem w32_lo (a : Nat → Int) : ∀ j, j < 32 → w32 a j = a j := by
  intro j hj
  have : j = 0 ∨ j = 1 ∨ j = 2 ∨ j = 3 ∨ j = 4 ∨ j = 5 ∨ j = 6 ∨ j = 7 ∨ j = 8 ∨ j = 9 ∨ j = 10 ∨ j = 11 ∨ j = 12 ∨ j = 13 ∨ j = 14 ∨ j = 15 ∨ j = 16 ∨ j = 17 ∨ j = 18 ∨ j = 19 ∨ j = 20 ∨ j = 21 ∨ j = 22 ∨ j = 23 ∨ j = 24 ∨ j = 25 ∨ j = 26 ∨ j = 27 ∨ j = 28 ∨ j = 29 ∨ j = 30 ∨ j = 31 := by omega
  rcases this with rfl | rfl | rfl | rfl | rfl | rfl | rfl | rfl | rfl | rfl | rfl | rfl | rfl | rfl | rfl | rfl | rfl | rfl | rfl | rfl | rfl | rfl | rfl | rfl | rfl | rfl | rfl | rfl | rfl | rfl | rfl | rfl <;> rfl
theorem w32_hi (a : Nat → Int) : ∀ j, j < 32 → w32 a (32 + j) = 0 := by
  intro j hj
  have : j = 0 ∨ j = 1 ∨ j = 2 ∨ j = 3 ∨ j = 4 ∨ j = 5 ∨ j = 6 ∨ j = 7 ∨ j = 8 ∨ j = 9 ∨ j = 10 ∨ j = 11 ∨ j = 12 ∨ j = 13 ∨ j = 14 ∨ j = 15 ∨ j = 16 ∨ j = 17 ∨ j = 18 ∨ j = 19 ∨ j = 20 ∨ j = 21 ∨ j = 22 ∨ j = 23 ∨ j = 24 ∨ j = 25 ∨ j = 26 ∨ j = 27 ∨ j = 28 ∨ j = 29 ∨ j = 30 ∨ j = 31 := by omega
  rcases this with rfl | rfl | rfl | rfl | rfl | rfl | rfl | rfl | rfl | rfl | rfl | rfl | rfl | rfl | rfl | rfl | rfl | rfl | rfl | rfl | rfl | rfl | rfl | rfl | rfl | rfl | rfl | rfl | rfl | rfl | rfl | rfl <;> rfl
theorem by_join {w a b : Nat → Int} (h1 : ∀ j, j < 32 → w j = a j) (h2 : ∀ j, j < 32 → w (32 + j) = b j) (ha : By 32 a) (hb : By 32 b) : By 64 w := by
  intro j hj
  by_cases h : j < 32
  · rw [h1 j h]; exact ha j h
  · rw [show j = 32 + (j - 32) by omega, h2 (j - 32) (by omega)]; exact hb (j - 32) (by omega)
def P256 : Int := 115792089237316195423570985008687907853269984665640564039457584007913129639936
theorem wide_join {w a b : Nat → Int} (h1 : ∀ j, j < 32 → w j = a j) (h2 : ∀ j, j < 32 → w (32 + j) = b j) (ha : By 32 a) (hb : By 32 b) : lvn 8 (wideO w) = num a + P256 * num b := by
  rw [wide_bytes (by_join h1 h2 ha hb), show 64 = 32 + 32 from rfl, dv_split, dv_congr h1, dv_congr h2, num_bytes ha, num_bytes hb, pw_eq]
  rfl
theorem by_zero (n : Nat) : By n (fun _ => 0) := fun _ _ => ⟨by show (0 : Int) ≤ 0; omega, by show (0 : Int) < 256; omega⟩
theorem by_wf {n : Nat} {a : Nat → Int} (h : ∀ j, j < n → (Lit.int .u8 (a j)).wf = true) : By n a := fun j hj => wf_u8 (h j hj)
theorem by_one (n : Nat) : By n oneF := by_up (by omega) (by omega) n
theorem lawHalves_true {low high : Nat → Int} (hl : By 32 low) (hh : By 32 high) : lawHalves low high = true := by
  unfold lawHalves
  refine eq_st (rdc_st _) (add_st _ _) ?_
  rw [num_rdc, num_add, num_mul, num_rdc, wide_join (shift_lo low high) (shift_hi low high) hl hh, wide_join (shift_lo _ _) (shift_hi _ _) (by_zero 32) (by_one 32), num_zero, num_one, ea, ← ea (num high * _), mb, ea]
  rw [Int.zero_add, Int.mul_one, Int.add_comm, Int.mul_comm]
/-! ### One form -/
theorem ordB_by : By 32 ordB := by
  intro j hj
  have : j = 0 ∨ j = 1 ∨ j = 2 ∨ j = 3 ∨ j = 4 ∨ j = 5 ∨ j = 6 ∨ j = 7 ∨ j = 8 ∨ j = 9 ∨ j = 10 ∨ j = 11 ∨ j = 12 ∨ j = 13 ∨ j = 14 ∨ j = 15 ∨ j = 16 ∨ j = 17 ∨ j = 18 ∨ j = 19 ∨ j = 20 ∨ j = 21 ∨ j = 22 ∨ j = 23 ∨ j = 24 ∨ j = 25 ∨ j = 26 ∨ j = 27 ∨ j = 28 ∨ j = 29 ∨ j = 30 ∨ j = 31 := by omega
  rcases this with rfl | rfl | rfl | rfl | rfl | rfl | rfl | rfl | rfl | rfl | rfl | rfl | rfl | rfl | rfl | rfl | rfl | rfl | rfl | rfl | rfl | rfl | rfl | rfl | rfl | rfl | rfl | rfl | rfl | rfl | rfl | rfl <;> exact ⟨by decide, by decide⟩
theorem ordB_v : num ordB = LL := by rw [num_bytes ordB_by]; decide
theorem rem256 {x : Int} (h : 0 ≤ x) : remI x 256 = x % 256 := by unfold remI; rw [Int.tmod_eq_emod_of_nonneg h]
theorem quo256 {x : Int} (h : 0 ≤ x) (h1 : x < 65536) : quoI .i64 x 256 = x / 256 := by
  unfold quoI
  rw [Int.tdiv_eq_ediv_of_nonneg h, wrap_i64 _ (by omega)]
theorem ab_round {a o : Nat → Int} (ha : By 32 a) (ho : By 32 o) {k : Nat} (hk : k < 32) {c : Int} (h0 : 0 ≤ c) (h1 : c ≤ 1) :
    addI .i64 (addI .i64 (IntKind.wrap .i64 (a k)) (IntKind.wrap .i64 (o k))) c = a k + o k + c := by
  have x := ha k hk; have y := ho k hk
  unfold addI
  rw [wrap_i64 (a k) (by omega), wrap_i64 (o k) (by omega), wrap_i64 (a k + o k) (by omega), wrap_i64 _ (by omega)]
theorem ab_v {a o : Nat → Int} (ha : By 32 a) (ho : By 32 o) : ∀ k, k ≤ 32 →
    0 ≤ abK a o k ∧ abK a o k ≤ 1 ∧ By k (abF a o k) ∧ dv 256 k (abF a o k) + pw 256 k * abK a o k = dv 256 k a + dv 256 k o
  | 0, _ => ⟨by simp [abK], by simp [abK], fun j hj => by omega, by simp [dv, abK]⟩
  | k + 1, hk => by
    obtain ⟨h0, h1, h2, h3⟩ := ab_v ha ho k (by omega)
    have hr := ab_round ha ho (k := k) (by omega) h0 h1
    have x := ha k (by omega); have y := ho k (by omega)
    simp only [abK, abF, hr]
    rw [rem256 (by omega), quo256 (by omega) (by omega)]
    have hw : IntKind.wrap .u8 ((a k + o k + abK a o k) % 256) = (a k + o k + abK a o k) % 256 := by rw [wrap_u8]; omega
    rw [hw]
    generalize abK a o k = c at *
    refine ⟨by omega, by omega, fun j hj => ?_, ?_⟩
    · rw [up_at]
      split
      · exact ⟨by omega, by omega⟩
      · exact h2 j (by omega)
    · rw [dv_top, dv_top, dv_top, up_at, if_pos rfl, dv_congr (b := abF a o k) fun i hi => by rw [up_at, if_neg (by omega)]]
      rw [pw]
      have e : pw 256 k * ((a k + o k + c) % 256) + 256 * pw 256 k * ((a k + o k + c) / 256) = pw 256 k * (a k + o k + c) := by
        have := Int.emod_add_mul_ediv (a k + o k + c) 256
        generalize (a k + o k + c) / 256 = q at *
        generalize (a k + o k + c) % 256 = r at *
        rw [← this, Int.mul_add, Int.mul_comm 256 (pw 256 k), Int.mul_assoc]
      rw [Int.mul_add, Int.mul_add] at e
      omega
theorem lawOneForm_true {a : Nat → Int} (ha : By 32 a) : lawOneForm a = true := by
  have hw : lvn 8 (wideO (w32 a)) = num a := by rw [wide_join (w32_lo a) (w32_hi a) ha (by_zero 32), num_zero]; omega
  have hr : num (rdcO (w32 a)) = num a % LL := by rw [num_rdc, hw]
  have e1 : eqN 32 (rdcO (w32 a)) (addO a fun _ => 0) = true := eq_st (rdc_st _) (add_st _ _) (by rw [hr, num_add, num_zero, Int.add_zero])
  have e2 : canO (rdcO (w32 a)) = true := can_mod _ hr
  have e3 : canO ordB = false := by rw [can_iff, ordB_v]; exact decide_eq_false (by omega)
  have e4 : (canO a == eqN 32 (rdcO (w32 a)) a) = true := by
    rw [can_iff, beq_iff_eq, Bool.eq_iff_iff, decide_eq_true_iff]
    constructor
    · intro h
      refine eqN_mk fun j hj => ?_
      rw [rdc_st, hr, Int.emod_eq_of_lt (num_nn a).1 h]
      exact st_bytes ha j hj
    · intro h
      have := num_congr (eqN_at h)
      rw [hr] at this
      have := (mod_nn (num a)).2
      omega
  have e5 : abBO a ordB = true → canO (abFO a ordB) = false ∧ eqN 32 (addO (abFO a ordB) fun _ => 0) (rdcO (w32 a)) = true := by
    intro hb
    obtain ⟨h0, h1, h2, h3⟩ := ab_v ha ordB_by 32 (Nat.le_refl _)
    rw [abBO_eq] at hb
    rw [beq_iff_eq] at hb
    have hn : num (abFO a ordB) = num a + LL := by
      rw [abFO_eq]
      dsimp only
      rw [num_bytes h2, num_bytes ha, ← ordB_v, num_bytes ordB_by]
      rw [hb] at h3
      omega
    refine ⟨?_, eq_st (add_st _ _) (rdc_st _) ?_⟩
    · rw [can_iff, hn]
      have := (num_nn a).1
      exact decide_eq_false (by omega)
    · rw [num_add, num_zero, hr, hn, Int.add_zero, Int.add_emod_right]
  simp only [lawOneForm, e1, e2, e3, e4, Bool.not_true, cond_false]
  cases hb : abBO a ordB with
  | false => rfl
  | true => simp only [e5 hb, Bool.not_true, Bool.not_false, cond_true, cond_false]
end Go.Proofs.YtnoehjibponofaaDoor
