/-
  The document's lists as numbers: sums, differences, doubles, comparison, bits. Plain. Conditions: none.
-/
import Derived.Test.YtnoehjibponofaaDoorSF
import Derived.Test.YtnoehjibponofaaDoorPV
namespace Go.Proofs.YtnoehjibponofaaDoor
open Go.Ev Go.Num
def atN (x : Nat) (f : Nat → Int) : Nat → Int := fun j => atF x f (j : Int)
theorem atN_lt {x : Nat} {f : Nat → Int} {j : Nat} (h : j < x) : atN x f j = f j := by
  unfold atN atF
  rw [decide_eq_true (by omega), cond_true, Int.toNat_natCast, Nat.mul_one, Nat.zero_add]
theorem atN_ge {x : Nat} {f : Nat → Int} {j : Nat} (h : x ≤ j) : atN x f j = 0 := by
  unfold atN atF
  rw [decide_eq_false (by omega), cond_false]
theorem by_at {x n : Nat} {f : Nat → Int} (h : By x f) : By n (atN x f) := by
  intro j _
  by_cases hj : j < x
  · rw [atN_lt hj]; exact h j hj
  · rw [atN_ge (by omega)]; omega
theorem dv_at {x : Nat} {f : Nat → Int} : ∀ {n : Nat}, x ≤ n → dv 256 n (atN x f) = dv 256 x f := by
  intro n hn
  obtain ⟨d, rfl⟩ : ∃ d, n = x + d := ⟨n - x, by omega⟩
  rw [dv_split, dv_congr (b := f) fun i hi => atN_lt hi, dv_congr (b := fun _ => 0) (n := d) fun i _ => atN_ge (by omega), dv_zero]
  simp
theorem carry_eq (P X : Int) : P * (X % 256) + 256 * P * (X / 256) = P * X := by
  have h := Int.emod_add_mul_ediv X 256
  have : P * (X % 256 + 256 * (X / 256)) = P * X := by rw [h]
  rw [← this, Int.mul_add, Int.mul_comm 256 P, Int.mul_assoc]
/-! ### Less -/
theorem lessD_lt (x : Nat) (f : Nat → Int) (y : Nat) (g : Nat → Int) : ∀ k, lessD x f y g k = ltB (atN x f) (atN y g) k
  | 0 => rfl
  | k + 1 => by rw [lessD, ltB, lessD_lt x f y g k]; rfl
theorem lessD_v {x y : Nat} {f g : Nat → Int} (hf : By x f) (hg : By y g) : lessD x f y g (max x y) = decide (dv 256 x f < dv 256 y g) := by
  rw [lessD_lt, ltB_spec (B := 256) (by omega) (fun i hi => by_at hf i hi) (fun i hi => by_at hg i hi), dv_at (by omega), dv_at (by omega)]
/-! ### minus -/
theorem sub64 {a b : Int} (h : -1000000 ≤ a - b) (h2 : a - b ≤ 1000000) : subI .i64 a b = a - b := by unfold subI; rw [wrap_i64 _ (by omega)]
theorem add64 {a b : Int} (h : -1000000 ≤ a + b) (h2 : a + b ≤ 1000000) : addI .i64 a b = a + b := by unfold addI; rw [wrap_i64 _ (by omega)]
theorem mns_v {x y n : Nat} {f g : Nat → Int} (hf : By n f) (hg : By y g) : ∀ k, k ≤ n → (mnsB f y g k = 0 ∨ mnsB f y g k = 1) ∧ By k (mnsV f y g) ∧ dv 256 k (mnsV f y g) = dv 256 k f - dv 256 k (atN y g) + pw 256 k * mnsB f y g k
  | 0, _ => ⟨.inl rfl, fun j hj => by omega, by simp [dv, mnsB, pw]⟩
  | k + 1, hk => by
    obtain ⟨h1, h2, h3⟩ := mns_v (x := x) hf hg k (by omega)
    have a := hf k (by omega)
    have b := by_at (n := n) hg k (by omega)
    have e : subI .i64 (subI .i64 (f k) (atF y g (k : Int))) (mnsB f y g k) = f k - atN y g k - mnsB f y g k := by
      have : atF y g (k : Int) = atN y g k := rfl
      rw [this, sub64 (a := f k) (by omega) (by omega), sub64 (by omega) (by omega)]
    have hv : mnsV f y g k = cond (decide (f k - atN y g k - mnsB f y g k < 0)) (f k - atN y g k - mnsB f y g k + 256) (f k - atN y g k - mnsB f y g k) := by
      unfold mnsV
      rw [e]
      cases hd : decide (f k - atN y g k - mnsB f y g k < 0) with
      | true => simp only [cond_true]; exact add64 (by omega) (by omega)
      | false => rfl
    have hb : mnsB f y g (k + 1) = cond (decide (f k - atN y g k - mnsB f y g k < 0)) 1 0 := by rw [mnsB, e]
    rw [dv_top, dv_top, dv_top, h3, hb, hv, pw]
    by_cases hd : f k - atN y g k - mnsB f y g k < 0
    · rw [decide_eq_true hd] at hv ⊢
      refine ⟨.inr rfl, fun j hj => ?_, ?_⟩
      · by_cases hjk : j = k
        · subst hjk; rw [hv, cond_true]; omega
        · exact h2 j (by omega)
      · simp only [cond_true]
        rw [Int.mul_add, Int.mul_sub, Int.mul_sub]; omega
    · rw [decide_eq_false hd] at hv ⊢
      refine ⟨.inl rfl, fun j hj => ?_, ?_⟩
      · by_cases hjk : j = k
        · subst hjk; rw [hv, cond_false]; omega
        · exact h2 j (by omega)
      · simp only [cond_false]
        rw [Int.mul_sub, Int.mul_sub]; omega
theorem mns_num {x y : Nat} {f g : Nat → Int} (hf : By x f) (hg : By y g) (hxy : y ≤ x) (h : dv 256 y g ≤ dv 256 x f) : By x (mnsV f y g) ∧ dv 256 x (mnsV f y g) = dv 256 x f - dv 256 y g := by
  obtain ⟨h1, h2, h3⟩ := mns_v (x := x) hf hg x (Nat.le_refl _)
  rw [dv_at hxy] at h3
  have hb := dv_bound (B := 256) (by omega) h2
  have hf' := dv_bound (B := 256) (by omega) hf
  have hg' := dv_bound (B := 256) (by omega) hg
  rcases h1 with h1 | h1
  · rw [h1, Int.mul_zero, Int.add_zero] at h3; exact ⟨h2, h3⟩
  · rw [h1, Int.mul_one] at h3; omega
/-! ### Sum -/
theorem sum_v {x y : Nat} {f g : Nat → Int} (hf : By x f) (hg : By y g) : ∀ k, k ≤ max x y → (0 ≤ sumC x f y g k ∧ sumC x f y g k ≤ 1) ∧ By k (sumV x f y g) ∧ dv 256 k (sumV x f y g) + pw 256 k * sumC x f y g k = dv 256 k (atN x f) + dv 256 k (atN y g)
  | 0, _ => ⟨⟨by simp [sumC], by simp [sumC]⟩, fun j hj => by omega, by simp [dv, sumC]⟩
  | k + 1, hk => by
    obtain ⟨h1, h2, h3⟩ := sum_v hf hg k (by omega)
    have a := by_at (n := max x y) hf k (by omega)
    have b := by_at (n := max x y) hg k (by omega)
    have e : addI .i64 (addI .i64 (atF x f (k : Int)) (atF y g (k : Int))) (sumC x f y g k) = atN x f k + atN y g k + sumC x f y g k := by
      have e1 : atF x f (k : Int) = atN x f k := rfl
      have e2 : atF y g (k : Int) = atN y g k := rfl
      rw [e1, e2, add64 (a := atN x f k) (by omega) (by omega), add64 (by omega) (by omega)]
    have hv : sumV x f y g k = (atN x f k + atN y g k + sumC x f y g k) % 256 := by
      unfold sumV
      rw [bltT.2 (by omega), cond_true, e, rem256 (by omega)]
    have hc : sumC x f y g (k + 1) = (atN x f k + atN y g k + sumC x f y g k) / 256 := by rw [sumC, e, quo256 (by omega) (by omega)]
    rw [dv_top, dv_top, dv_top, hv, hc, pw]
    refine ⟨⟨by omega, by omega⟩, fun j hj => ?_, ?_⟩
    · by_cases hjk : j = k
      · subst hjk; rw [hv]; omega
      · exact h2 j (by omega)
    · have e2 : pw 256 k * ((atN x f k + atN y g k + sumC x f y g k) % 256) + 256 * pw 256 k * ((atN x f k + atN y g k + sumC x f y g k) / 256) = pw 256 k * (atN x f k + atN y g k + sumC x f y g k) := by
        exact carry_eq _ _
      rw [Int.mul_add, Int.mul_add] at e2
      omega
theorem sum_num {x y : Nat} {f g : Nat → Int} (hf : By x f) (hg : By y g) : By (max x y + 1) (sumV x f y g) ∧ dv 256 (max x y + 1) (sumV x f y g) = dv 256 x f + dv 256 y g := by
  obtain ⟨h1, h2, h3⟩ := sum_v hf hg (max x y) (Nat.le_refl _)
  rw [dv_at (by omega), dv_at (by omega)] at h3
  have hv : sumV x f y g (max x y) = sumC x f y g (max x y) := by unfold sumV; rw [ff bltT (by omega), cond_false]
  refine ⟨fun j hj => ?_, by rw [dv_top, hv, h3]⟩
  by_cases hjk : j = max x y
  · rw [hjk, hv]; omega
  · exact h2 j (by omega)
/-! ### Doubles -/
theorem dbl_v {q : Int} {h : Nat → Int} {n : Nat} (hq : 0 ≤ q ∧ q ≤ 1) (hh : By n h) : ∀ k, k ≤ n → (0 ≤ dblC q h k ∧ dblC q h k ≤ 1) ∧ By k (dblF q h k) ∧ dv 256 k (dblF q h k) + pw 256 k * dblC q h k = 2 * dv 256 k h + q
  | 0, _ => ⟨hq, fun j hj => by omega, by simp [dv, dblC, pw]⟩
  | k + 1, hk => by
    obtain ⟨h1, h2, h3⟩ := dbl_v hq hh k (by omega)
    have a := hh k (by omega)
    have e : addI .i64 (mulI .i64 2 (h k)) (dblC q h k) = 2 * h k + dblC q h k := by
      have : mulI .i64 2 (h k) = 2 * h k := by unfold mulI; rw [wrap_i64 _ (by omega)]
      rw [this, add64 (by omega) (by omega)]
    simp only [dblC, dblF, e]
    rw [rem256 (by omega), quo256 (by omega) (by omega)]
    refine ⟨⟨by omega, by omega⟩, fun j hj => ?_, ?_⟩
    · rw [up_at]
      split
      · omega
      · exact h2 j (by omega)
    · rw [dv_top, dv_top, up_at, if_pos rfl, dv_congr (b := dblF q h k) fun i hi => by rw [up_at, if_neg (by omega)], pw]
      have e2 : pw 256 k * ((2 * h k + dblC q h k) % 256) + 256 * pw 256 k * ((2 * h k + dblC q h k) / 256) = pw 256 k * (2 * h k + dblC q h k) := by
        exact carry_eq _ _
      rw [Int.mul_add] at e2
      have e3 : pw 256 k * (2 * h k) = 2 * (pw 256 k * h k) := by rw [← Int.mul_assoc, Int.mul_comm (pw 256 k) 2, Int.mul_assoc]
      omega
/-! ### Bits -/
theorem hvI_v {d : Int} (h0 : 0 ≤ d) (h1 : d < 256) : ∀ k, hvI d k = d / 2 ^ k
  | 0 => by simp [hvI]
  | k + 1 => by
    have hp : (0 : Int) < 2 ^ k := Int.pow_pos (by omega)
    have hn : 0 ≤ d / 2 ^ k := Int.ediv_nonneg h0 (by omega)
    have hl : d / 2 ^ k ≤ d := Int.ediv_le_self _ h0
    rw [hvI, hvI_v h0 h1 k, Int.pow_succ, ← Int.ediv_ediv_of_nonneg (by omega)]
    unfold quoI
    rw [Int.tdiv_eq_ediv_of_nonneg hn, wrap_i64 _ (by omega)]
theorem bit_v {x : Nat} {f : Nat → Int} (hf : By x f) {i : Nat} (hi : i < 8 * x) (h : x < 1000) : bitV x f (i : Int) = dv 256 x f / 2 ^ i % 2 := by
  unfold bitV
  rw [show quoI .i64 (i : Int) 8 = ((i / 8 : Nat) : Int) from quo_nat i 8 (by omega), show remI (i : Int) 8 = ((i % 8 : Nat) : Int) from rem_nat i 8]
  have e : atF x f ((i / 8 : Nat) : Int) = f (i / 8) := atN_lt (by omega)
  have hd := hf (i / 8) (by omega)
  rw [e, Int.toNat_natCast, hvI_v hd.1 hd.2]
  have := digit_bit (k := 8) (a := f) (n := x) (m := i / 8) (r := i % 8) (fun j hj => hf j hj) (by omega) (by omega)
  rw [Nat.div_add_mod] at this
  rw [show (256 : Int) = 2 ^ 8 by decide, this]
  unfold remI
  have hn : 0 ≤ f (i / 8) / 2 ^ (i % 8) := Int.ediv_nonneg hd.1 (Int.le_of_lt (Int.pow_pos (by omega)))
  rw [Int.tmod_eq_emod_of_nonneg hn]
theorem ordN_by : By 32 ordN := by
  intro j hj
  have : j = 0 ∨ j = 1 ∨ j = 2 ∨ j = 3 ∨ j = 4 ∨ j = 5 ∨ j = 6 ∨ j = 7 ∨ j = 8 ∨ j = 9 ∨ j = 10 ∨ j = 11 ∨ j = 12 ∨ j = 13 ∨ j = 14 ∨ j = 15 ∨ j = 16 ∨ j = 17 ∨ j = 18 ∨ j = 19 ∨ j = 20 ∨ j = 21 ∨ j = 22 ∨ j = 23 ∨ j = 24 ∨ j = 25 ∨ j = 26 ∨ j = 27 ∨ j = 28 ∨ j = 29 ∨ j = 30 ∨ j = 31 := by omega
  rcases this with rfl | rfl | rfl | rfl | rfl | rfl | rfl | rfl | rfl | rfl | rfl | rfl | rfl | rfl | rfl | rfl | rfl | rfl | rfl | rfl | rfl | rfl | rfl | rfl | rfl | rfl | rfl | rfl | rfl | rfl | rfl | rfl <;> exact ⟨by decide, by decide⟩
theorem ordN_v : dv 256 32 ordN = LL := by decide
/-- A round of Mod: from v to 2 v + q, less L where it can be. -/
theorem mod_round {q v : Int} {h : Nat → Int} (hq : 0 ≤ q ∧ q ≤ 1) (hh : By 33 h) (hv : dv 256 33 h = v) (hl : v < LL) :
    By 33 (dblF q h 33) ∧ dv 256 33 (dblF q h 33) = 2 * v + q ∧
    ((!(lessD 33 (dblF q h 33) 32 ordN (max 33 32))) = true → ∀ u, By 33 (apx 33 (mnsV (dblF q h 33) 32 ordN) u) ∧ dv 256 33 (apx 33 (mnsV (dblF q h 33) 32 ordN) u) = (2 * v + q) % LL) ∧
    ((!(lessD 33 (dblF q h 33) 32 ordN (max 33 32))) = false → (2 * v + q) % LL = 2 * v + q) := by
  obtain ⟨c, b, e⟩ := dbl_v hq hh 33 (Nat.le_refl _)
  have hb := dv_bound (B := 256) (by omega) b
  have h0 := (dv_bound (B := 256) (by omega) hh).1
  have hp : pw 256 33 = 29642774844752946028434172162224104410437116074403984394101141506025761187823616 := by decide
  have hc : dblC q h 33 = 0 := by
    rw [hp] at e hb
    unfold LL at hl
    omega
  rw [hc, Int.mul_zero, Int.add_zero, hv] at e
  rw [lessD_v b ordN_by, e, ordN_v]
  refine ⟨b, rfl, fun hd u => ?_, fun hd => ?_⟩
  · have hd : ¬ (2 * v + q < LL) := by simpa using hd
    obtain ⟨m1, m2⟩ := mns_num (x := 33) (y := 32) b ordN_by (by omega) (by rw [e, ordN_v]; omega)
    rw [e, ordN_v] at m2
    have ea : ∀ j, j < 33 → apx 33 (mnsV (dblF q h 33) 32 ordN) u j = mnsV (dblF q h 33) 32 ordN j := fun j hj => by rw [apx_at, if_pos hj]
    refine ⟨fun j hj => by rw [ea j hj]; exact m1 j hj, ?_⟩
    rw [dv_congr ea, m2]
    have : (2 * v + q) % LL = (2 * v + q - LL) % LL := (Int.sub_emod_right _ _).symm
    rw [this, Int.emod_eq_of_lt (by omega) (by omega)]
  · have hd : 2 * v + q < LL := by simpa using hd
    exact Int.emod_eq_of_lt (by omega) hd
theorem mod_next (X : Int) (i : Nat) : (2 * (X / 2 ^ (i + 1) % LL) + X / 2 ^ i % 2) % LL = X / 2 ^ i % LL := by
  have e : X / 2 ^ i = 2 * (X / 2 ^ (i + 1)) + X / 2 ^ i % 2 := by
    rw [Int.pow_succ, ← Int.ediv_ediv_of_nonneg (Int.le_of_lt (Int.pow_pos (by omega)))]; omega
  have e2 : (2 * (X / 2 ^ (i + 1) % LL) + X / 2 ^ i % 2) % LL = (2 * (X / 2 ^ (i + 1)) + X / 2 ^ i % 2) % LL := by
    rw [← ea, mb, ea]
  rw [e2, ← e]
end Go.Proofs.YtnoehjibponofaaDoor
