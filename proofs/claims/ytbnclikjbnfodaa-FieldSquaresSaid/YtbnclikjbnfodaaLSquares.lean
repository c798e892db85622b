/-
  FieldSquares answers true. Conditions: none.
-/
import Derived.Test.YtbnclikjbnfodaaMSqrt
namespace Go.Proofs.Ytbnclikjbnfodaa
open Go.Ev Go.Num

theorem ev_sq (Z : Int) : ev Z * ev Z = Z * Z := by unfold ev; split <;> grind
theorem ev_even (Z : Int) : ev Z % p % 2 = 0 := by
  unfold ev
  have h0 := Int.emod_nonneg Z (show p ≠ 0 by decide)
  have h1 := Int.emod_lt_of_pos Z (show 0 < p by decide)
  split
  · rename_i h
    have e : -Z % p = p - Z % p := by
      rw [← nm, ← Int.add_emod_right, show -(Z % p) + p = p - Z % p by omega]
      exact Int.emod_eq_of_lt (by omega) (by omega)
    rw [e]
    have : p % 2 = 1 := by decide
    omega
  · omega

theorem sq_ok {U V : Int} (hV : V % p ≠ 0) (h : (sqZ U V).2 = true) : Eqp (V * ((sqZ U V).1 * (sqZ U V).1)) U ∧ (sqZ U V).1 % p % 2 = 0 := by
  have hq := quot_mul (U := U) hV
  unfold sqZ at h ⊢
  rw [if_neg hV] at h ⊢
  by_cases c1 : quot U V * quot U V ^ Q4 % p = quot U V % p
  · rw [if_pos c1]
    refine ⟨?_, ev_even _⟩
    dsimp only
    rw [ev_sq, root_sq, Int.mul_comm]
    exact (Eqp.mul (show Eqp _ _ from c1) (.refl V)).trans hq
  · rw [if_neg c1] at h ⊢
    by_cases c2 : quot U V * quot U V ^ Q4 % p = -quot U V % p
    · rw [if_pos c2]
      refine ⟨?_, ev_even _⟩
      dsimp only
      rw [ev_sq, show quot U V ^ (E8 + 1) * I4 * (quot U V ^ (E8 + 1) * I4) = quot U V ^ (E8 + 1) * quot U V ^ (E8 + 1) * (I4 * I4) by grind, root_sq, Int.mul_comm]
      have h2 : Eqp (quot U V * quot U V ^ Q4 * (I4 * I4)) (quot U V) := ((Eqp.mul (show Eqp _ _ from c2) I4_sq)).trans (.of (by grind))
      exact (h2.mul (.refl V)).trans hq
    · rw [if_neg c2] at h
      exact absurd h (by simp)

theorem sq_no {U V : Int} (hV : V % p ≠ 0) (h : (sqZ U V).2 = false) : (sqZ U V).1 = 0 ∧ Eqp ((U * V) ^ (2 * Q4)) (-1) := by
  have hq := quot_mul (U := U) hV
  unfold sqZ at h ⊢
  rw [if_neg hV] at h ⊢
  by_cases c1 : quot U V * quot U V ^ Q4 % p = quot U V % p
  · rw [if_pos c1] at h; exact absurd h (by simp)
  rw [if_neg c1] at h ⊢
  by_cases c2 : quot U V * quot U V ^ Q4 % p = -quot U V % p
  · rw [if_pos c2] at h; exact absurd h (by simp)
  rw [if_neg c2]
  refine ⟨rfl, ?_⟩
  generalize quot U V = X at *
  have hX : X % p ≠ 0 := by
    intro hX
    apply c1
    have : Eqp X 0 := hX
    exact ((this.mul (.refl (X ^ Q4))).trans (.of (Int.zero_mul _))).trans this.symm
  have h1 : Eqp ((U * V) ^ (2 * Q4)) (X ^ (2 * Q4)) := by
    have e : (X * V * V) ^ (2 * Q4) = X ^ (2 * Q4) * V ^ (pN - 1) := by
      rw [show X * V * V = X * V ^ 2 by grind, Int.mul_pow, ← Int.pow_mul, ← Q4_4, show 2 * (2 * Q4) = 4 * Q4 by omega]
    refine (((hq.symm.mul (.refl V)).pow (2 * Q4)).trans (.of e)).trans ?_
    exact ((Eqp.refl _).mul (fermE hV)).trans (.of (Int.mul_one _))
  refine h1.trans ?_
  have h4 : (X ^ (2 * Q4)) * (X ^ (2 * Q4)) % p = 1 * 1 % p := by
    rw [← Int.pow_add, show 2 * Q4 + 2 * Q4 = pN - 1 by rw [← Q4_4]; omega]
    exact fermE hX
  rcases sq_eq h4 with h5 | h5
  · exfalso
    have h6 : X ^ Q4 * X ^ Q4 % p = 1 * 1 % p := by
      rw [← Int.pow_add, show Q4 + Q4 = 2 * Q4 by omega]; exact h5
    rcases sq_eq h6 with h7 | h7
    · exact c1 ((Eqp.mul (.refl X) (show Eqp _ _ from h7)).trans (.of (Int.mul_one _)))
    · exact c2 ((Eqp.mul (.refl X) (show Eqp _ _ from h7)).trans (.of (by omega)))
  · exact h5

theorem sq_square {U V A : Int} (hV : V % p ≠ 0) (h : Eqp U (V * (A * A))) : (sqZ U V).2 = true := by
  have hq := quot_mul (U := U) hV
  have hx : Eqp (quot U V) (A * A) := (eqp_iff_mul hV).1 ((hq.trans h).trans (.of (Int.mul_comm _ _)))
  unfold sqZ
  rw [if_neg hV]
  by_cases c1 : quot U V * quot U V ^ Q4 % p = quot U V % p
  · rw [if_pos c1]
  rw [if_neg c1]
  by_cases c2 : quot U V * quot U V ^ Q4 % p = -quot U V % p
  · rw [if_pos c2]
  exfalso
  generalize quot U V = X at *
  by_cases hA : A % p = 0
  · have hX : Eqp X 0 := hx.trans (((show Eqp A 0 from hA).mul (.refl A)).trans (.of (Int.zero_mul _)))
    exact c1 (((hX.mul (.refl (X ^ Q4))).trans (.of (Int.zero_mul _))).trans hX.symm)
  · have h4 : (A ^ (2 * Q4)) * (A ^ (2 * Q4)) % p = 1 * 1 % p := by
      rw [← Int.pow_add, show 2 * Q4 + 2 * Q4 = pN - 1 by rw [← Q4_4]; omega]
      exact fermE hA
    have h5 : Eqp (X ^ Q4) (A ^ (2 * Q4)) := (hx.pow Q4).trans (.of (by rw [Int.pow_mul, show A ^ 2 = A * A by grind]))
    rcases sq_eq h4 with h6 | h6
    · exact c1 ((Eqp.mul (.refl X) (h5.trans (show Eqp _ _ from h6))).trans (.of (Int.mul_one _)))
    · exact c2 ((Eqp.mul (.refl X) (h5.trans (show Eqp _ _ from h6))).trans (.of (by omega)))

theorem powH : B32 (lawPow 246 63) := by unfold B32; decide
theorem powH_v : vb (lawPow 246 63) = ((2 * Q4 : Nat) : Int) := by decide

theorem even_i {x : Nat → Int} {Z : Int} (h : Is x Z) (e : Z % p % 2 = 0) : isOddF x = false := by rw [isOdd_v h.u, h.v, e]; rfl

theorem squares_true {u y : Nat → Int} (hu : U5 u) (hy : U5 y) : lawSquares u y = true := by
  obtain ⟨a1, a2⟩ := sqrt_v hu hy
  have su := sq_i hu
  have m := mul_i hy su.u
  obtain ⟨b1, b2⟩ := sqrt_v m.u hy
  have hs := select_i (y := y) hu
  unfold lawSquares
  rw [isZeroFO_eq, sqrtFO_eq, countsBO_eq, counts_true, isOddFO_eq, mulFO_eq, squareFO_eq, selectFO_eq, powFO_eq, negFO_eq, smallFO_eq, isZero_i hy rfl, isZero_i hu rfl, isZero_i a1.u a1.v, a2, b2]
  by_cases h0 : v5 y % p = 0
  · rw [decide_eq_true h0, cond_true]
    unfold sqZ
    rw [if_pos h0]
    simp
  · rw [decide_eq_false h0, cond_false]
    have hm : Eqp (v5 (mulF y (squareF u))) (v5 y * (v5 u * v5 u)) := by
      have : v5 (mulF y (squareF u)) % p = _ := m.v
      rw [su.1, mr] at this
      exact this
    have ok := sq_square h0 hm
    obtain ⟨t1, t2⟩ := sq_ok h0 ok
    rw [ok]
    have hz : Eqp ((sqZ (v5 (mulF y (squareF u))) (v5 y)).1 * (sqZ (v5 (mulF y (squareF u))) (v5 y)).1) (v5 u * v5 u) := by
      refine (eqp_iff_mul h0).1 ?_
      rw [Int.mul_comm, Int.mul_comm (v5 u * v5 u)]
      exact t1.trans hm
    rw [even_i b1 t2, b1.eqn hs, b1.eqn (neg_i hu)]
    have tail : (cond true (cond (decide ((sqZ (v5 (mulF y (squareF u))) (v5 y)).1 % p = v5 u % p)) (cond (!false) true false) (cond (decide ((sqZ (v5 (mulF y (squareF u))) (v5 y)).1 % p = -v5 u % p)) (cond (!false) true false) false)) false) = true := by
      rcases sq_eq hz with h | h
      · rw [decide_eq_true h]; rfl
      · rw [decide_eq_true h]; simp
    rw [tail]
    cases hok : (sqZ (v5 u) (v5 y)).2 with
    | true =>
      obtain ⟨r1, r2⟩ := sq_ok h0 hok
      have rr := sqK a1
      have e1 : eqN 5 (mulF y (squareF (sqrtF u y).1)) (selectF true u y) = true := by
        rw [((mul_i hy rr.u).to (Y := v5 y * ((sqZ (v5 u) (v5 y)).1 * (sqZ (v5 u) (v5 y)).1)) (by rw [rr.1, mr])).eqn hs]
        exact decide_eq_true r1
      rw [even_i a1 r2, e1]
      rfl
    | false =>
      obtain ⟨r1, r2⟩ := sq_no h0 hok
      have mm := mul_i hu hy
      have e1 : eqN 5 (powF (mulF u y) (lawPow 246 63)) (negF (smallF 1)) = true := by
        rw [(powK mm powH powH_v).eqn (negK (small_i 1 (by omega) (by omega)))]
        exact decide_eq_true r2
      rw [e1, r1]
      rfl
end Go.Proofs.Ytbnclikjbnfodaa
