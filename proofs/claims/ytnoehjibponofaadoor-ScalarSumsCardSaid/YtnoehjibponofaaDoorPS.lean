/-
  Invert, as a number: a power. Conditions: none.
-/
import Derived.Test.YtnoehjibponofaaDoorPR
import Derived.Test.YtnoehjibponofaaDoorMPrime
namespace Go.Proofs.YtnoehjibponofaaDoor
open Go.Ev Go.Num
theorem inv_h (o a : Nat → Int) (N : Nat) (R : V) : awp Tryd.prog p35 noG N (body Tryd.f31) (ends Tryd.prog Tryd.f31 fun v _ => okV R v) ⟨[(V.ints .u8 32 a)] ++ List.replicate 39 V.un, [(V.tup [V.fn 2, (V.ints .u64 4 o)])]⟩ = (gB (eqN 4 o ordF) (mB (eqN 4 (redO 4 (loadO a)) (fun _ => 0)) (okV R (V.tup [(V.ints .u8 32 (fun _ => 0)), (V.bool false)])) (lp (awp Tryd.prog p35 noG N (loopOf (body Tryd.f31))) (spineQ Tryd.prog p35 noG N (body Tryd.f31) (ends Tryd.prog Tryd.f31 fun v _ => okV R v)) N ⟨[(V.ints .u8 32 a), (V.ptr 1 0), (V.ptr 2 0), (V.bool false), (V.ptr 3 0), (V.int .u64 (bcO o (up 0 2 (fun _ => 0)))), (V.ptr 4 0), (V.int .i64 255), (V.ints .u8 32 a), (V.ints .u64 4 (redO 4 (loadO a))), (V.ints .u64 4 (fun _ => 0)), (V.bool (eqN 4 (redO 4 (loadO a)) (fun _ => 0))), V.un, (V.tup [(V.ints .u64 4 (minusO o (up 0 2 (fun _ => 0)))), (V.int .u64 (bcO o (up 0 2 (fun _ => 0))))]), (V.ints .u64 4 o), (V.ints .u64 4 (up 0 2 (fun _ => 0))), (V.tup [(V.ints .u64 4 (minusO o (up 0 2 (fun _ => 0)))), (V.int .u64 (bcO o (up 0 2 (fun _ => 0))))]), (V.ints .u64 4 (minusO o (up 0 2 (fun _ => 0)))), (V.int .u64 (bcO o (up 0 2 (fun _ => 0)))), (V.ints .u8 32 (up 0 1 (fun _ => 0))), V.un, V.un, V.un, V.un, V.un, V.un, V.un, V.un, V.un, V.un, V.un, V.un, V.un, V.un, V.un, V.un, V.un, V.un, V.un, V.un], [(V.tup [V.fn 2, (V.ints .u64 4 o)]), (V.ints .u8 32 a), (V.ints .u8 32 (fun _ => 0)), (V.ints .u64 4 (minusO o (up 0 2 (fun _ => 0)))), (V.ints .u8 32 (up 0 1 (fun _ => 0)))]⟩))) := by kernel_rfl
theorem inv_s (o a : Nat → Int) (i : Int) (q : Nat → Int) (t20 t21 t22 t23 t24 t25 t26 t27 t28 t29 t30 t31 t32 t33 t34 t35 t36 t37 t38 : V) (Q : Exit → St → Prop) (m : Nat) : lp (awp Tryd.prog p35 noG 300 (loopOf (body Tryd.f31))) Q (m + 1) ⟨[(V.ints .u8 32 a), (V.ptr 1 0), (V.ptr 2 0), (V.bool false), (V.ptr 3 0), (V.int .u64 (bcO o (up 0 2 (fun _ => 0)))), (V.ptr 4 0), (V.int .i64 i), (V.ints .u8 32 a), (V.ints .u64 4 (redO 4 (loadO a))), (V.ints .u64 4 (fun _ => 0)), (V.bool (eqN 4 (redO 4 (loadO a)) (fun _ => 0))), V.un, (V.tup [(V.ints .u64 4 (minusO o (up 0 2 (fun _ => 0)))), (V.int .u64 (bcO o (up 0 2 (fun _ => 0))))]), (V.ints .u64 4 o), (V.ints .u64 4 (up 0 2 (fun _ => 0))), (V.tup [(V.ints .u64 4 (minusO o (up 0 2 (fun _ => 0)))), (V.int .u64 (bcO o (up 0 2 (fun _ => 0))))]), (V.ints .u64 4 (minusO o (up 0 2 (fun _ => 0)))), (V.int .u64 (bcO o (up 0 2 (fun _ => 0)))), (V.ints .u8 32 (up 0 1 (fun _ => 0))), t20, t21, t22, t23, t24, t25, t26, t27, t28, t29, t30, t31, t32, t33, t34, t35, t36, t37, t38, V.un], [(V.tup [V.fn 2, (V.ints .u64 4 o)]), (V.ints .u8 32 a), (V.ints .u8 32 (fun _ => 0)), (V.ints .u64 4 (minusO o (up 0 2 (fun _ => 0)))), (V.ints .u8 32 q)]⟩ = (mB (decide (i ≥ 0)) (gB (eqN 4 o ordF) (gB (decide (0 ≤ (quoI .i64 i 64) ∧ (quoI .i64 i 64) < 4)) (gB (Nat.blt (0 + (Int.toNat (quoI .i64 i 64) * 1)) 4) (gB (decide (0 ≤ (remI i 64))) (mB ((andI .u64 (shrI .u64 ((minusO o (up 0 2 (fun _ => 0))) (0 + (Int.toNat (quoI .i64 i 64) * 1))) (remI i 64)) 1) == 1) (gB (eqN 4 o ordF) (lp (awp Tryd.prog p35 noG 300 (loopOf (body Tryd.f31))) Q m ⟨[(V.ints .u8 32 a), (V.ptr 1 0), (V.ptr 2 0), (V.bool false), (V.ptr 3 0), (V.int .u64 (bcO o (up 0 2 (fun _ => 0)))), (V.ptr 4 0), (V.int .i64 (subI .i64 i 1)), (V.ints .u8 32 a), (V.ints .u64 4 (redO 4 (loadO a))), (V.ints .u64 4 (fun _ => 0)), (V.bool (eqN 4 (redO 4 (loadO a)) (fun _ => 0))), V.un, (V.tup [(V.ints .u64 4 (minusO o (up 0 2 (fun _ => 0)))), (V.int .u64 (bcO o (up 0 2 (fun _ => 0))))]), (V.ints .u64 4 o), (V.ints .u64 4 (up 0 2 (fun _ => 0))), (V.tup [(V.ints .u64 4 (minusO o (up 0 2 (fun _ => 0)))), (V.int .u64 (bcO o (up 0 2 (fun _ => 0))))]), (V.ints .u64 4 (minusO o (up 0 2 (fun _ => 0)))), (V.int .u64 (bcO o (up 0 2 (fun _ => 0)))), (V.ints .u8 32 (up 0 1 (fun _ => 0))), (V.int .i64 i), (V.bool (decide (i ≥ 0))), (V.int .i64 i), (V.int .i64 (subI .i64 i 1)), (V.ints .u8 32 q), (V.ints .u8 32 q), (V.ints .u8 32 (mulO q q)), (V.int .i64 i), (V.int .i64 (quoI .i64 i 64)), (V.ptr 3 (0 + (Int.toNat (quoI .i64 i 64) * 1))), (V.int .u64 ((minusO o (up 0 2 (fun _ => 0))) (0 + (Int.toNat (quoI .i64 i 64) * 1)))), (V.int .i64 i), (V.int .i64 (remI i 64)), (V.int .u64 (shrI .u64 ((minusO o (up 0 2 (fun _ => 0))) (0 + (Int.toNat (quoI .i64 i 64) * 1))) (remI i 64))), (V.int .u64 (andI .u64 (shrI .u64 ((minusO o (up 0 2 (fun _ => 0))) (0 + (Int.toNat (quoI .i64 i 64) * 1))) (remI i 64)) 1)), (V.bool ((andI .u64 (shrI .u64 ((minusO o (up 0 2 (fun _ => 0))) (0 + (Int.toNat (quoI .i64 i 64) * 1))) (remI i 64)) 1) == 1)), (V.ints .u8 32 (mulO q q)), (V.ints .u8 32 a), (V.ints .u8 32 (mulO (mulO q q) a)), V.un], [(V.tup [V.fn 2, (V.ints .u64 4 o)]), (V.ints .u8 32 a), (V.ints .u8 32 (fun _ => 0)), (V.ints .u64 4 (minusO o (up 0 2 (fun _ => 0)))), (V.ints .u8 32 (mulO (mulO q q) a))]⟩)) (lp (awp Tryd.prog p35 noG 300 (loopOf (body Tryd.f31))) Q m ⟨[(V.ints .u8 32 a), (V.ptr 1 0), (V.ptr 2 0), (V.bool false), (V.ptr 3 0), (V.int .u64 (bcO o (up 0 2 (fun _ => 0)))), (V.ptr 4 0), (V.int .i64 (subI .i64 i 1)), (V.ints .u8 32 a), (V.ints .u64 4 (redO 4 (loadO a))), (V.ints .u64 4 (fun _ => 0)), (V.bool (eqN 4 (redO 4 (loadO a)) (fun _ => 0))), V.un, (V.tup [(V.ints .u64 4 (minusO o (up 0 2 (fun _ => 0)))), (V.int .u64 (bcO o (up 0 2 (fun _ => 0))))]), (V.ints .u64 4 o), (V.ints .u64 4 (up 0 2 (fun _ => 0))), (V.tup [(V.ints .u64 4 (minusO o (up 0 2 (fun _ => 0)))), (V.int .u64 (bcO o (up 0 2 (fun _ => 0))))]), (V.ints .u64 4 (minusO o (up 0 2 (fun _ => 0)))), (V.int .u64 (bcO o (up 0 2 (fun _ => 0)))), (V.ints .u8 32 (up 0 1 (fun _ => 0))), (V.int .i64 i), (V.bool (decide (i ≥ 0))), (V.int .i64 i), (V.int .i64 (subI .i64 i 1)), (V.ints .u8 32 q), (V.ints .u8 32 q), (V.ints .u8 32 (mulO q q)), (V.int .i64 i), (V.int .i64 (quoI .i64 i 64)), (V.ptr 3 (0 + (Int.toNat (quoI .i64 i 64) * 1))), (V.int .u64 ((minusO o (up 0 2 (fun _ => 0))) (0 + (Int.toNat (quoI .i64 i 64) * 1)))), (V.int .i64 i), (V.int .i64 (remI i 64)), (V.int .u64 (shrI .u64 ((minusO o (up 0 2 (fun _ => 0))) (0 + (Int.toNat (quoI .i64 i 64) * 1))) (remI i 64))), (V.int .u64 (andI .u64 (shrI .u64 ((minusO o (up 0 2 (fun _ => 0))) (0 + (Int.toNat (quoI .i64 i 64) * 1))) (remI i 64)) 1)), (V.bool ((andI .u64 (shrI .u64 ((minusO o (up 0 2 (fun _ => 0))) (0 + (Int.toNat (quoI .i64 i 64) * 1))) (remI i 64)) 1) == 1)), t36, t37, t38, V.un], [(V.tup [V.fn 2, (V.ints .u64 4 o)]), (V.ints .u8 32 a), (V.ints .u8 32 (fun _ => 0)), (V.ints .u64 4 (minusO o (up 0 2 (fun _ => 0)))), (V.ints .u8 32 (mulO q q))]⟩)))))) (Q (.exit 0) ⟨[(V.ints .u8 32 a), (V.ptr 1 0), (V.ptr 2 0), (V.bool false), (V.ptr 3 0), (V.int .u64 (bcO o (up 0 2 (fun _ => 0)))), (V.ptr 4 0), (V.int .i64 i), (V.ints .u8 32 a), (V.ints .u64 4 (redO 4 (loadO a))), (V.ints .u64 4 (fun _ => 0)), (V.bool (eqN 4 (redO 4 (loadO a)) (fun _ => 0))), V.un, (V.tup [(V.ints .u64 4 (minusO o (up 0 2 (fun _ => 0)))), (V.int .u64 (bcO o (up 0 2 (fun _ => 0))))]), (V.ints .u64 4 o), (V.ints .u64 4 (up 0 2 (fun _ => 0))), (V.tup [(V.ints .u64 4 (minusO o (up 0 2 (fun _ => 0)))), (V.int .u64 (bcO o (up 0 2 (fun _ => 0))))]), (V.ints .u64 4 (minusO o (up 0 2 (fun _ => 0)))), (V.int .u64 (bcO o (up 0 2 (fun _ => 0)))), (V.ints .u8 32 (up 0 1 (fun _ => 0))), (V.int .i64 i), (V.bool (decide (i ≥ 0))), t22, t23, t24, t25, t26, t27, t28, t29, t30, t31, t32, t33, t34, t35, t36, t37, t38, V.un], [(V.tup [V.fn 2, (V.ints .u64 4 o)]), (V.ints .u8 32 a), (V.ints .u8 32 (fun _ => 0)), (V.ints .u64 4 (minusO o (up 0 2 (fun _ => 0)))), (V.ints .u8 32 q)]⟩)) := by kernel_rfl
theorem inv_x (o a : Nat → Int) (i : Int) (q : Nat → Int) (t20 t21 t22 t23 t24 t25 t26 t27 t28 t29 t30 t31 t32 t33 t34 t35 t36 t37 t38 : V) (R : V) : spineQ Tryd.prog p35 noG 300 (body Tryd.f31) (ends Tryd.prog Tryd.f31 fun v _ => okV R v) (.exit 0) ⟨[(V.ints .u8 32 a), (V.ptr 1 0), (V.ptr 2 0), (V.bool false), (V.ptr 3 0), (V.int .u64 (bcO o (up 0 2 (fun _ => 0)))), (V.ptr 4 0), (V.int .i64 i), (V.ints .u8 32 a), (V.ints .u64 4 (redO 4 (loadO a))), (V.ints .u64 4 (fun _ => 0)), (V.bool (eqN 4 (redO 4 (loadO a)) (fun _ => 0))), V.un, (V.tup [(V.ints .u64 4 (minusO o (up 0 2 (fun _ => 0)))), (V.int .u64 (bcO o (up 0 2 (fun _ => 0))))]), (V.ints .u64 4 o), (V.ints .u64 4 (up 0 2 (fun _ => 0))), (V.tup [(V.ints .u64 4 (minusO o (up 0 2 (fun _ => 0)))), (V.int .u64 (bcO o (up 0 2 (fun _ => 0))))]), (V.ints .u64 4 (minusO o (up 0 2 (fun _ => 0)))), (V.int .u64 (bcO o (up 0 2 (fun _ => 0)))), (V.ints .u8 32 (up 0 1 (fun _ => 0))), t20, t21, t22, t23, t24, t25, t26, t27, t28, t29, t30, t31, t32, t33, t34, t35, t36, t37, t38, V.un], [(V.tup [V.fn 2, (V.ints .u64 4 o)]), (V.ints .u8 32 a), (V.ints .u8 32 (fun _ => 0)), (V.ints .u64 4 (minusO o (up 0 2 (fun _ => 0)))), (V.ints .u8 32 q)]⟩ = (okV R (V.tup [(V.ints .u8 32 q), (V.bool true)])) := by kernel_rfl
def EE : Int := 7237005577332262213973186563042994240857116359379907606001950938285454250987
def two4 : Nat → Int := up 0 2 (fun _ => 0)
theorem pw_v {o : Nat → Int} (ho : eqN 4 o ordF = true) : ∀ j, j < 4 → minusO o (up 0 2 (fun _ => 0)) j = wF EE j := by
  obtain ⟨o1, o2⟩ := eq_ord ho
  have t1 : u4 (up 0 2 (fun _ => 0)) = true := by decide
  have t2 : lv4 (up 0 2 (fun _ => 0)) = 2 := by decide
  have h1 := (minus_v o1 t1).2
  have h2 := (minus_ge o1 t1 (by rw [o2, t2]; omega)).1
  rw [o2, t2] at h2
  rw [minusO_eq]
  have := words_at h1
  rw [h2] at this
  exact this
theorem inv_bit {o : Nat → Int} (ho : eqN 4 o ordF = true) {i : Nat} (hi : i < 256) : andI .u64 (shrI .u64 (minusO o (up 0 2 (fun _ => 0)) (0 + (Int.toNat (quoI .i64 (i : Int) 64) * 1))) (remI (i : Int) 64)) 1 = EE / 2 ^ i % 2 := by
  rw [show quoI .i64 (i : Int) 64 = ((i / 64 : Nat) : Int) from quo_nat i 64 (by omega), show remI (i : Int) 64 = ((i % 64 : Nat) : Int) from rem_nat i 64]
  simp only [Int.toNat_natCast, Nat.mul_one, Nat.zero_add]
  rw [pw_v ho _ (by omega), and1, shrU _ _ (by omega)]
  have := digit_bit (k := 64) (a := wF EE) (n := 4) (m := i / 64) (r := i % 64) (fun j _ => by unfold wF; simp only [Int.reducePow]; omega) (by omega) (by omega)
  rw [Nat.div_add_mod] at this
  rw [← this]
  have e := dv_digits (B := 18446744073709551616) (by omega) (n := 4) (N := EE)
  have e2 : dv (2 ^ 64) 4 (wF EE) = EE := by
    show dv 18446744073709551616 4 (fun j => EE / 18446744073709551616 ^ j % 18446744073709551616) = EE
    rw [e]; decide
  rw [e2]
/-- The power, bit by bit from the highest on: behind k rounds. -/
noncomputable def invR (a : Nat → Int) : Nat → Nat → Int
  | 0 => up 0 1 (fun _ => 0)
  | k + 1 => cond (EE / 2 ^ (255 - k) % 2 == 1) (mulO (mulO (invR a k) (invR a k)) a) (mulO (invR a k) (invR a k))
theorem pow_mod (x : Int) (n : Nat) : (x ^ n % LL) = (x % LL) ^ n % LL := by
  induction n with
  | zero => simp
  | succ n ih => rw [Int.pow_succ, Int.pow_succ, Int.mul_emod, ih, Int.mul_emod ((x % LL) ^ n), Int.emod_emod_of_dvd x (Int.dvd_refl LL)]
theorem exp_step {E : Int} (h0 : 0 ≤ E) (i : Nat) : (E / 2 ^ i).toNat = 2 * (E / 2 ^ (i + 1)).toNat + (E / 2 ^ i % 2).toNat := by
  have h1 : E / 2 ^ (i + 1) = E / 2 ^ i / 2 := by rw [Int.pow_succ, Int.ediv_ediv_of_nonneg (Int.le_of_lt (pow_pos' (by omega) i))]
  have h2 : 0 ≤ E / 2 ^ i := Int.ediv_nonneg h0 (Int.le_of_lt (pow_pos' (by omega) i))
  rw [h1]; omega
theorem invR_v (a : Nat → Int) : ∀ k, k ≤ 256 → num (invR a k) = num a ^ (EE / 2 ^ (256 - k)).toNat % LL
  | 0, _ => by
    show num (up 0 1 (fun _ => 0)) = _
    rw [show num (up 0 1 (fun _ => 0)) = 1 from num_up (by omega) (by omega), show Int.toNat (EE / (2 : Int) ^ (256 - 0)) = 0 by decide, Int.pow_zero]
    decide
  | k + 1, hk => by
    have ih := invR_v a k (by omega)
    have hs := exp_step (E := EE) (by decide) (255 - k)
    rw [show 255 - k + 1 = 256 - k by omega] at hs
    rw [show 256 - (k + 1) = 255 - k by omega]
    have hsq : num (mulO (invR a k) (invR a k)) = num a ^ (2 * (EE / 2 ^ (256 - k)).toNat) % LL := by
      rw [num_mul, ih, ma, mb, ← Int.pow_add]
      congr 2
      omega
    have ht : EE / 2 ^ (255 - k) % 2 = 0 ∨ EE / 2 ^ (255 - k) % 2 = 1 := by omega
    simp only [invR]
    rcases ht with ht | ht
    · rw [ht] at hs ⊢
      rw [show ((0 : Int) == 1) = false from rfl, cond_false, hsq, hs]; rfl
    · rw [ht] at hs ⊢
      rw [show ((1 : Int) == 1) = true from rfl, cond_true, num_mul, hsq, ma, hs, ← Int.pow_succ]; rfl
noncomputable def invO : (Nat → Int) → Nat → Int := Classical.choose (hide_ex fun a => stF (num a ^ EE.toNat % LL))
theorem invO_eq : invO = fun a => stF (num a ^ EE.toNat % LL) := Classical.choose_spec (hide_ex fun a => stF (num a ^ EE.toNat % LL))
noncomputable def invB : (Nat → Int) → Bool := Classical.choose (hide_ex fun a => !(num a % LL == 0))
theorem invB_eq : invB = fun a => !(num a % LL == 0) := Classical.choose_spec (hide_ex fun a => !(num a % LL == 0))
theorem invR_st (a : Nat → Int) (k : Nat) : invR a (k + 1) = stF (num (invR a (k + 1))) := by
  simp only [invR]
  cases (EE / 2 ^ (255 - k) % 2 == 1)
  · exact mul_st _ _
  · exact mul_st _ _
theorem inv_last (a : Nat → Int) : invR a 256 = invO a := by
  have h := invR_v a 256 (Nat.le_refl _)
  rw [Nat.sub_self, Int.pow_zero, Int.ediv_one] at h
  have : invR a 256 = stF (num (invR a 256)) := invR_st a 255
  rw [this, h, invO_eq]
theorem red_zero (a : Nat → Int) : (eqN 4 (redO 4 (loadO a)) (fun _ => 0)) = (num a % LL == 0) := by
  have h : lv4 (redO 4 (loadO a)) = num a % LL := red_lv _ _
  rw [Bool.eq_iff_iff, beq_iff_eq]
  constructor
  · intro e
    have := lv4_congr (eqN_at e)
    rw [h] at this
    rw [this]; decide
  · intro e
    refine eqN_mk fun j hj => ?_
    rw [red_n j hj]
    have : lvn 4 (loadO a) % LL = 0 := e
    rw [this]
    have : j = 0 ∨ j = 1 ∨ j = 2 ∨ j = 3 := by omega
    rcases this with rfl | rfl | rfl | rfl <;> decide
theorem inv_l {o a : Nat → Int} (ho : eqN 4 o ordF = true) (hb : invB a = true) : ∀ (k m : Nat), k ≤ 256 → k + 1 ≤ m → ∀ (t20 t21 t22 t23 t24 t25 t26 t27 t28 t29 t30 t31 t32 t33 t34 t35 t36 t37 t38 : V),
    lp (awp Tryd.prog p35 noG 300 (loopOf (body Tryd.f31))) (spineQ Tryd.prog p35 noG 300 (body Tryd.f31) (ends Tryd.prog Tryd.f31 fun v _ => okV (V.tup [V.ints .u8 32 (invO a), V.bool (invB a)]) v)) m ⟨[(V.ints .u8 32 a), (V.ptr 1 0), (V.ptr 2 0), (V.bool false), (V.ptr 3 0), (V.int .u64 (bcO o (up 0 2 (fun _ => 0)))), (V.ptr 4 0), (V.int .i64 ((k : Int) - 1)), (V.ints .u8 32 a), (V.ints .u64 4 (redO 4 (loadO a))), (V.ints .u64 4 (fun _ => 0)), (V.bool (eqN 4 (redO 4 (loadO a)) (fun _ => 0))), V.un, (V.tup [(V.ints .u64 4 (minusO o (up 0 2 (fun _ => 0)))), (V.int .u64 (bcO o (up 0 2 (fun _ => 0))))]), (V.ints .u64 4 o), (V.ints .u64 4 (up 0 2 (fun _ => 0))), (V.tup [(V.ints .u64 4 (minusO o (up 0 2 (fun _ => 0)))), (V.int .u64 (bcO o (up 0 2 (fun _ => 0))))]), (V.ints .u64 4 (minusO o (up 0 2 (fun _ => 0)))), (V.int .u64 (bcO o (up 0 2 (fun _ => 0)))), (V.ints .u8 32 (up 0 1 (fun _ => 0))), t20, t21, t22, t23, t24, t25, t26, t27, t28, t29, t30, t31, t32, t33, t34, t35, t36, t37, t38, V.un], [(V.tup [V.fn 2, (V.ints .u64 4 o)]), (V.ints .u8 32 a), (V.ints .u8 32 (fun _ => 0)), (V.ints .u64 4 (minusO o (up 0 2 (fun _ => 0)))), (V.ints .u8 32 (invR a (256 - k)))]⟩
  | 0, m, _, hm, t20, t21, t22, t23, t24, t25, t26, t27, t28, t29, t30, t31, t32, t33, t34, t35, t36, t37, t38 => by
    obtain ⟨m, rfl⟩ : ∃ z, m = z + 1 := ⟨m - 1, by omega⟩
    rw [inv_s]
    refine mBt (fun h => absurd (of_decide_eq_true h) (by omega)) (fun _ => ?_)
    rw [inv_x, inv_last, hb]
    exact okV_refl rfl
  | k + 1, m, hk, hm, t20, t21, t22, t23, t24, t25, t26, t27, t28, t29, t30, t31, t32, t33, t34, t35, t36, t37, t38 => by
    obtain ⟨m, rfl⟩ : ∃ z, m = z + 1 := ⟨m - 1, by omega⟩
    have e1 : (((k + 1 : Nat) : Int) - 1) = (k : Int) := by omega
    rw [e1, inv_s]
    have hq : quoI .i64 (k : Int) 64 = ((k / 64 : Nat) : Int) := quo_nat k 64 (by omega)
    have hr : remI (k : Int) 64 = ((k % 64 : Nat) : Int) := rem_nat k 64
    have g1 : decide (0 ≤ quoI .i64 (k : Int) 64 ∧ quoI .i64 (k : Int) 64 < 4) = true := by rw [hq]; exact decide_eq_true (by omega)
    have g2 : Nat.blt (0 + (Int.toNat (quoI .i64 (k : Int) 64) * 1)) 4 = true := by rw [hq, Int.toNat_natCast]; exact bltT.2 (by omega)
    have g3 : decide (0 ≤ remI (k : Int) 64) = true := by rw [hr]; exact decide_eq_true (by omega)
    have hnx : subI .i64 (k : Int) 1 = (k : Int) - 1 := sub1_nat k (by omega)
    refine mBt (fun _ => ?_) (fun h => absurd (of_decide_eq_false h) (by omega))
    have hsub : 256 - k = 256 - (k + 1) + 1 := by omega
    have hsub2 : 255 - (256 - (k + 1)) = k := by omega
    refine gm ho (gm g1 (gm g2 (gm g3 (mBt (fun h => gm ho ?_) (fun h => ?_)))))
    · rw [hnx]
      rw [inv_bit ho (show k < 256 by omega)] at h
      have hi : invR a (256 - k) = mulO (mulO (invR a (256 - (k + 1))) (invR a (256 - (k + 1)))) a := by
        rw [hsub]
        simp only [invR, hsub2, h, cond_true]
      rw [← hi]
      exact inv_l ho hb k m (by omega) (by omega) _ _ _ _ _ _ _ _ _ _ _ _ _ _ _ _ _ _ _
    · rw [hnx]
      rw [inv_bit ho (show k < 256 by omega)] at h
      have hi : invR a (256 - k) = mulO (invR a (256 - (k + 1))) (invR a (256 - (k + 1))) := by
        rw [hsub]
        simp only [invR, hsub2, h, cond_false]
      rw [← hi]
      exact inv_l ho hb k m (by omega) (by omega) _ _ _ _ _ _ _ _ _ _ _ _ _ _ _ _ _ _ _
theorem inv_a {o a : Nat → Int} (ho : eqN 4 o ordF = true) : awp Tryd.prog p35 noG 300 (body Tryd.f31) (ends Tryd.prog Tryd.f31 fun v _ => okV (V.tup [V.ints .u8 32 (invO a), V.bool (invB a)]) v) ⟨[V.ints .u8 32 a] ++ List.replicate 39 V.un, [V.tup [V.fn 2, V.ints .u64 4 o]]⟩ := by
  rw [inv_h]
  refine gm ho (mBt (fun h => ?_) (fun h => ?_))
  · rw [red_zero] at h
    have h1 : invB a = false := by rw [invB_eq]; simp only [h, Bool.not_true]
    have h2 : invO a = fun _ => 0 := by
      rw [invO_eq]
      dsimp only
      rw [pow_mod, beq_iff_eq.1 h]
      funext j
      rw [show ((0 : Int) ^ EE.toNat % LL) = 0 by rw [Int.zero_pow (by decide)]; rfl]
      unfold stF; simp
    rw [h1, h2]
    exact okV_refl rfl
  · rw [red_zero] at h
    have h1 : invB a = true := by rw [invB_eq]; simp only [h, Bool.not_false]
    have := inv_l ho h1 256 300 (Nat.le_refl _) (by omega) V.un V.un V.un V.un V.un V.un V.un V.un V.un V.un V.un V.un V.un V.un V.un V.un V.un V.un V.un
    rw [show (((256 : Nat) : Int) - 1) = 255 by decide, Nat.sub_self] at this
    exact this
noncomputable def g31 : List V → List V → Option (Bool × V) := fun vs m => match views [2] vs m with
  | some ([.ints .u8 32 a], [.tup [.fn 2, .ints .u64 4 o]]) => some (eqN 4 o ordF, .tup [.ints .u8 32 (invO a), .bool (invB a)])
  | _ => none
theorem g31_ok (vs m : List V) (v : V) (h : g31 vs m = some (true, v)) : v.flat = true ∧ ∀ μ B w0 w, Under B w0 → Rel μ B w0 m w → PureAt Tryd.prog 31 (vs.map (V.den μ)).toArray (v.den μ) w := by
  unfold g31 at h
  split at h
  · rename_i a o hv
    simp only [Option.some.injEq, Prod.mk.injEq] at h
    obtain ⟨h1, rfl⟩ := h
    refine ⟨rfl, ?_⟩
    exact reads_ok (fn := Tryd.f31) (N := 300) (n := 39) hM p35_ok (noG_ok _) Tryd.func31 (by kernel_rfl) (by kernel_rfl) hv rfl (inv_a h1) (by kernel_rfl)
  · cases h
theorem g31_grow (vs m : List V) (z : V) (r : Bool × V) (h : g31 vs m = some r) : g31 vs (m ++ [z]) = some r := by
  unfold g31 at h ⊢
  cases hv : views [2] vs m with
  | none => rw [hv] at h; cases h
  | some p => rw [hv] at h; rw [views_grow hv]; exact h
noncomputable def p31 : Orc := extM 31 g31 p35
theorem p31_ok : OrcOK Tryd.prog p31 := extM_ok p35_ok g31_ok g31_grow
noncomputable def lawField (a : (Nat → Int)) (b : (Nat → Int)) : Bool := (cond (!((invB a) == (!(eqN 32 (addO a (fun _ => 0)) (fun _ => 0))))) false (cond (!(invB a)) (eqN 32 (invO a) (fun _ => 0)) (cond (invB (invO a)) (cond (canO (invO a)) (cond (eqN 32 (mulO a (invO a)) oneF) (cond (eqN 32 (invO (invO a)) (addO a (fun _ => 0))) (eqN 32 (mulO (mulO b a) (invO a)) (addO b (fun _ => 0))) false) false) false) false)))
theorem lawField_t (a : (Nat → Int)) (b : (Nat → Int)) : awp Tryd.prog p31 noG 300 (body Tryd.f12) (ends Tryd.prog Tryd.f12 fun v _ => okV (V.bool (lawField a b)) v) ⟨[(V.ints .u8 32 a), (V.ints .u8 32 b)] ++ List.replicate 64 V.un, [(V.tup [V.fn 2, (V.ints .u64 4 ordF)]), (V.tup [V.fn 0, (V.ints .u8 32 oneF)]), (V.tup [V.fn 3, (V.ints .u8 32 twoF)])]⟩ = (mB (!((invB a) == (!(eqN 32 (addO a (fun _ => 0)) (fun _ => 0))))) ((V.bool false).den z0 = (V.bool (lawField a b)).den z0) (mB (!(invB a)) ((V.bool (eqN 32 (invO a) (fun _ => 0))).den z0 = (V.bool (lawField a b)).den z0) (mB (invB (invO a)) (mB (canO (invO a)) (mB (eqN 32 (mulO a (invO a)) oneF) (mB (eqN 32 (invO (invO a)) (addO a (fun _ => 0))) ((V.bool (eqN 32 (mulO (mulO b a) (invO a)) (addO b (fun _ => 0)))).den z0 = (V.bool (lawField a b)).den z0) ((V.bool false).den z0 = (V.bool (lawField a b)).den z0)) ((V.bool false).den z0 = (V.bool (lawField a b)).den z0)) ((V.bool false).den z0 = (V.bool (lawField a b)).den z0)) ((V.bool false).den z0 = (V.bool (lawField a b)).den z0)))) := by kernel_rfl
theorem lawField_a (a : (Nat → Int)) (b : (Nat → Int)) : awp Tryd.prog p31 noG 300 (body Tryd.f12) (ends Tryd.prog Tryd.f12 fun v _ => okV (V.bool (lawField a b)) v) ⟨[(V.ints .u8 32 a), (V.ints .u8 32 b)] ++ List.replicate 64 V.un, [(V.tup [V.fn 2, (V.ints .u64 4 ordF)]), (V.tup [V.fn 0, (V.ints .u8 32 oneF)]), (V.tup [V.fn 3, (V.ints .u8 32 twoF)])]⟩ := by
  rw [lawField_t]
  refine mBt (fun h1 => ?_) (fun h1 => ?_)
  · simp only [lawField, h1, cond_true]
  · refine mBt (fun h2 => ?_) (fun h2 => ?_)
    · simp only [lawField, h1, h2, cond_true, cond_false]
    · refine mBt (fun h3 => ?_) (fun h3 => ?_)
      · refine mBt (fun h4 => ?_) (fun h4 => ?_)
        · refine mBt (fun h5 => ?_) (fun h5 => ?_)
          · refine mBt (fun h6 => ?_) (fun h6 => ?_)
            · simp only [lawField, h1, h2, h3, h4, h5, h6, cond_true, cond_false]
            · simp only [lawField, h1, h2, h3, h4, h5, h6, cond_true, cond_false]
          · simp only [lawField, h1, h2, h3, h4, h5, cond_true, cond_false]
        · simp only [lawField, h1, h2, h3, h4, cond_true, cond_false]
      · simp only [lawField, h1, h2, h3, cond_false]
end Go.Proofs.YtnoehjibponofaaDoor
