/-
  A part of the groundwork of this seat's claims: an evaluator over the program, walks, and plain mathematics. Conditions: none.
-/
import Derived.Test.YtnoehjibponofaaDoorY04
import Derived.Test.YtnoehjibponofaaDoorFvT
/-
  Invert, as a number: a power. Conditions: none.
-/
namespace Go.Proofs.YtnoehjibponofaaDoor
open Go.Ev Go.Num
theorem inv_h (o a : Nat → Int) (N : Nat) (R : V) : awp Tryd.prog p35 noG N (body Tryd.f31) (ends Tryd.prog Tryd.f31 fun v _ => okV R v) ⟨[(V.ints .u8 32 a)] ++ List.replicate 39 V.un, [(V.tup [V.fn 2, (V.ints .u64 4 o)])]⟩ = (gB (eqN 4 o ordF) (mB (eqN 4 (redO 4 (loadO a)) (fun _ => 0)) (okV R (V.tup [(V.ints .u8 32 (fun _ => 0)), (V.bool false)])) (lp (awp Tryd.prog p35 noG N (loopOf (body Tryd.f31))) (spineQ Tryd.prog p35 noG N (body Tryd.f31) (ends Tryd.prog Tryd.f31 fun v _ => okV R v)) N ⟨[(V.ints .u8 32 a), (V.ptr 1 0), (V.ptr 2 0), (V.bool false), (V.ptr 3 0), (V.int .u64 (bcO o (up 0 2 (fun _ => 0)))), (V.ptr 4 0), (V.int .i64 255), (V.ints .u8 32 a), (V.ints .u64 4 (redO 4 (loadO a))), (V.ints .u64 4 (fun _ => 0)), (V.bool (eqN 4 (redO 4 (loadO a)) (fun _ => 0))), V.un, (V.tup [(V.ints .u64 4 (minusO o (up 0 2 (fun _ => 0)))), (V.int .u64 (bcO o (up 0 2 (fun _ => 0))))]), (V.ints .u64 4 o), (V.ints .u64 4 (up 0 2 (fun _ => 0))), (V.tup [(V.ints .u64 4 (minusO o (up 0 2 (fun _ => 0)))), (V.int .u64 (bcO o (up 0 2 (fun _ => 0))))]), (V.ints .u64 4 (minusO o (up 0 2 (fun _ => 0)))), (V.int .u64 (bcO o (up 0 2 (fun _ => 0)))), (V.ints .u8 32 (up 0 1 (fun _ => 0))), V.un, V.un, V.un, V.un, V.un, V.un, V.un, V.un, V.un, V.un, V.un, V.un, V.un, V.un, V.un, V.un, V.un, V.un, V.un, V.un], [(V.tup [V.fn 2, (V.ints .u64 4 o)]), (V.ints .u8 32 a), (V.ints .u8 32 (fun _ => 0)), (V.ints .u64 4 (minusO o (up 0 2 (fun _ => 0)))), (V.ints .u8 32 (up 0 1 (fun _ => 0)))]⟩))) := by kernel_rfl
theorem inv_s (o a : Nat → Int) (i : Int) (q : Nat → Int) (t20 t21 t22 t23 t24 t25 t26 t27 t28 t29 t30 t31 t32 t33 t34 t35 t36 t37 t38 : V) (Q : Exit → St → Prop) (m : Nat) : lp (awp Tryd.prog p35 noG 300 (loopOf (body Tryd.f31))) Q (m + 1) ⟨[(V.ints .u8 32 a), (V.ptr 1 0), (V.ptr 2 0), (V.bool false), (V.ptr 3 0), (V.int .u64 (bcO o (up 0 2 (fun _ => 0)))), (V.ptr 4 0), (V.int .i64 i), (V.ints .u8 32 a), (V.ints .u64 4 (redO 4 (loadO a))), (V.ints .u64 4 (fun _ => 0)), (V.bool (eqN 4 (redO 4 (loadO a)) (fun _ => 0))), V.un, (V.tup [(V.ints .u64 4 (minusO o (up 0 2 (fun _ => 0)))), (V.int .u64 (bcO o (up 0 2 (fun _ => 0))))]), (V.ints .u64 4 o), (V.ints .u64 4 (up 0 2 (fun _ => 0))), (V.tup [(V.ints .u64 4 (minusO o (up 0 2 (fun _ => 0)))), (V.int .u64 (bcO o (up 0 2 (fun _ => 0))))]), (V.ints .u64 4 (minusO o (up 0 2 (fun _ => 0)))), (V.int .u64 (bcO o (up 0 2 (fun _ => 0)))), (V.ints .u8 32 (up 0 1 (fun _ => 0))), t20, t21, t22, t23, t24, t25, t26, t27, t28, t29, t30, t31, t32, t33, t34, t35, t36, t37, t38, V.un], [(V.tup [V.fn 2, (V.ints .u64 4 o)]), (V.ints .u8 32 a), (V.ints .u8 32 (fun _ => 0)), (V.ints .u64 4 (minusO o (up 0 2 (fun _ => 0)))), (V.ints .u8 32 q)]⟩ = (mB (decide (i ≥ 0)) (gB (eqN 4 o ordF) (gB (decide (0 ≤ (quoI .i64 i 64) ∧ (quoI .i64 i 64) < 4)) (gB (Nat.blt (0 + (Int.toNat (quoI .i64 i 64) * 1)) 4) (gB (decide (0 ≤ (remI i 64))) (mB ((andI .u64 (shrI .u64 ((minusO o (up 0 2 (fun _ => 0))) (0 + (Int.toNat (quoI .i64 i 64) * 1))) (remI i 64)) 1) == 1) (gB (eqN 4 o ordF) (lp (awp Tryd.prog p35 noG 300 (loopOf (body Tryd.f31))) Q m ⟨[(V.ints .u8 32 a), (V.ptr 1 0), (V.ptr 2 0), (V.bool false), (V.ptr 3 0), (V.int .u64 (bcO o (up 0 2 (fun _ => 0)))), (V.ptr 4 0), (V.int .i64 (subI .i64 i 1)), (V.ints .u8 32 a), (V.ints .u64 4 (redO 4 (loadO a))), (V.ints .u64 4 (fun _ => 0)), (V.bool (eqN 4 (redO 4 (loadO a)) (fun _ => 0))), V.un, (V.tup [(V.ints .u64 4 (minusO o (up 0 2 (fun _ => 0)))), (V.int .u64 (bcO o (up 0 2 (fun _ => 0))))]), (V.ints .u64 4 o), (V.ints .u64 4 (up 0 2 (fun _ => 0))), (V.tup [(V.ints .u64 4 (minusO o (up 0 2 (fun _ => 0)))), (V.int .u64 (bcO o (up 0 2 (fun _ => 0))))]), (V.ints .u64 4 (minusO o (up 0 2 (fun _ => 0)))), (V.int .u64 (bcO o (up 0 2 (fun _ => 0)))), (V.ints .u8 32 (up 0 1 (fun _ => 0))), (V.int .i64 i), (V.bool (decide (i ≥ 0))), (V.int .i64 i), (V.int .i64 (subI .i64 i 1)), (V.ints .u8 32 q), (V.ints .u8 32 q), (V.ints .u8 32 (mulO q q)), (V.int .i64 i), (V.int .i64 (quoI .i64 i 64)), (V.ptr 3 (0 + (Int.toNat (quoI .i64 i 64) * 1))), (V.int .u64 ((minusO o (up 0 2 (fun _ => 0))) (0 + (Int.toNat (quoI .i64 i 64) * 1)))), (V.int .i64 i), (V.int .i64 (remI i 64)), (V.int .u64 (shrI .u64 ((minusO o (up 0 2 (fun _ => 0))) (0 + (Int.toNat (quoI .i64 i 64) * 1))) (remI i 64))), (V.int .u64 (andI .u64 (shrI .u64 ((minusO o (up 0 2 (fun _ => 0))) (0 + (Int.toNat (quoI .i64 i 64) * 1))) (remI i 64)) 1)), (V.bool ((andI .u64 (shrI .u64 ((minusO o (up 0 2 (fun _ => 0))) (0 + (Int.toNat (quoI .i64 i 64) * 1))) (remI i 64)) 1) == 1)), (V.ints .u8 32 (mulO q q)), (V.ints .u8 32 a), (V.ints .u8 32 (mulO (mulO q q) a)), V.un], [(V.tup [V.fn 2, (V.ints .u64 4 o)]), (V.ints .u8 32 a), (V.ints .u8 32 (fun _ => 0)), (V.ints .u64 4 (minusO o (up 0 2 (fun _ => 0)))), (V.ints .u8 32 (mulO (mulO q q) a))]⟩)) (lp (awp Tryd.prog p35 noG 300 (loopOf (body Tryd.f31))) Q m ⟨[(V.ints .u8 32 a), (V.ptr 1 0), (V.ptr 2 0), (V.bool false), (V.ptr 3 0), (V.int .u64 (bcO o (up 0 2 (fun _ => 0)))), (V.ptr 4 0), (V.int .i64 (subI .i64 i 1)), (V.ints .u8 32 a), (V.ints .u64 4 (redO 4 (loadO a))), (V.ints .u64 4 (fun _ => 0)), (V.bool (eqN 4 (redO 4 (loadO a)) (fun _ => 0))), V.un, (V.tup [(V.ints .u64 4 (minusO o (up 0 2 (fun _ => 0)))), (V.int .u64 (bcO o (up 0 2 (fun _ => 0))))]), (V.ints .u64 4 o), (V.ints .u64 4 (up 0 2 (fun _ => 0))), (V.tup [(V.ints .u64 4 (minusO o (up 0 2 (fun _ => 0)))), (V.int .u64 (bcO o (up 0 2 (fun _ => 0))))]), (V.ints .u64 4 (minusO o (up 0 2 (fun _ => 0)))), (V.int .u64 (bcO o (up 0 2 (fun _ => 0)))), (V.ints .u8 32 (up 0 1 (fun _ => 0))), (V.int .i64 i), (V.bool (decide (i ≥ 0))), (V.int .i64 i), (V.int .i64 (subI .i64 i 1)), (V.ints .u8 32 q), (V.ints .u8 32 q), (V.ints .u8 32 (mulO q q)), (V.int .i64 i), (V.int .i64 (quoI .i64 i 64)), (V.ptr 3 (0 + (Int.toNat (quoI .i64 i 64) * 1))), (V.int .u64 ((minusO o (up 0 2 (fun _ => 0))) (0 + (Int.toNat (quoI .i64 i 64) * 1)))), (V.int .i64 i), (V.int .i64 (remI i 64)), (V.int .u64 (shrI .u64 ((minusO o (up 0 2 (fun _ => 0))) (0 + (Int.toNat (quoI .i64 i 64) * 1))) (remI i 64))), (V.int .u64 (andI .u64 (shrI .u64 ((minusO o (up 0 2 (fun _ => 0))) (0 + (Int.toNat (quoI .i64 i 64) * 1))) (remI i 64)) 1)), (V.bool ((andI .u64 (shrI .u64 ((minusO o (up 0 2 (fun _ => 0))) (0 + (Int.toNat (quoI .i64 i 64) * 1))) (remI i 64)) 1) == 1)), t36, t37, t38, V.un], [(V.tup [V.fn 2, (V.ints .u64 4 o)]), (V.ints .u8 32 a), (V.ints .u8 32 (fun _ => 0)), (V.ints .u64 4 (minusO o (up 0 2 (fun _ => 0)))), (V.ints .u8 32 (mulO q q))]⟩)))))) (Q (.exit 0) ⟨[(V.ints .u8 32 a), (V.ptr 1 0), (V.ptr 2 0), (V.bool false), (V.ptr 3 0), (V.int .u64 (bcO o (up 0 2 (fun _ => 0)))), (V.ptr 4 0), (V.int .i64 i), (V.ints .u8 32 a), (V.ints .u64 4 (redO 4 (loadO a))), (V.ints .u64 4 (fun _ => 0)), (V.bool (eqN 4 (redO 4 (loadO a)) (fun _ => 0))), V.un, (V.tup [(V.ints .u64 4 (minusO o (up 0 2 (fun _ => 0)))), (V.int .u64 (bcO o (up 0 2 (fun _ => 0))))]), (V.ints .u64 4 o), (V.ints .u64 4 (up 0 2 (fun _ => 0))), (V.tup [(V.ints .u64 4 (minusO o (up 0 2 (fun _ => 0)))), (V.int .u64 (bcO o (up 0 2 (fun _ => 0))))]), (V.ints .u64 4 (minusO o (up 0 2 (fun _ => 0)))), (V.int .u64 (bcO o (up 0 2 (fun _ => 0)))), (V.ints .u8 32 (up 0 1 (fun _ => 0))), (V.int .i64 i), (V.bool (decide (i ≥ 0))), t22, t23, t24, t25, t26, t27, t28, t29, t30, t31, t32, t33, t34, t35, t36, t37, t38, V.un], [(V.tup [V.fn 2, (V.ints .u64 4 o)]), (V.ints .u8 32 a), (V.ints .u8 32 (fun _ => 0)), (V.ints .u64 4 (minusO o (up 0 2 (fun _ => 0)))), (V.ints .u8 32 q)]⟩)) := by kernel_rfl
theorem inv_x (o a : Nat → Int) (i : Int) (q : Nat → Int) (t20 t21 t22 t23 t24 t25 t26 t27 t28 t29 t30 t31 t32 t33 t34 t35 t36 t37 t38 : V) (R : V) : spineQ Tryd.prog p35 noG 300 (body Tryd.f31) (ends Tryd.prog Tryd.f31 fun v _ => okV R v) (.exit 0) ⟨[(V.ints .u8 32 a), (V.ptr 1 0), (V.ptr 2 0), (V.bool false), (V.ptr 3 0), (V.int .u64 (bcO o (up 0 2 (fun _ => 0)))), (V.ptr 4 0), (V.int .i64 i), (V.ints .u8 32 a), (V.ints .u64 4 (redO 4 (loadO a))), (V.ints .u64 4 (fun _ => 0)), (V.bool (eqN 4 (redO 4 (loadO a)) (fun _ => 0))), V.un, (V.tup [(V.ints .u64 4 (minusO o (up 0 2 (fun _ => 0)))), (V.int .u64 (bcO o (up 0 2 (fun _ => 0))))]), (V.ints .u64 4 o), (V.ints .u64 4 (up 0 2 (fun _ => 0))), (V.tup [(V.ints .u64 4 (minusO o (up 0 2 (fun _ => 0)))), (V.int .u64 (bcO o (up 0 2 (fun _ => 0))))]), (V.ints .u64 4 (minusO o (up 0 2 (fun _ => 0)))), (V.int .u64 (bcO o (up 0 2 (fun _ => 0)))), (V.ints .u8 32 (up 0 1 (fun _ => 0))), t20, t21, t22, t23, t24, t25, t26, t27, t28, t29, t30, t31, t32, t33, t34, t35, t36, t37, t38, V.un], [(V.tup [V.fn 2, (V.ints .u64 4 o)]), (V.ints .u8 32 a), (V.ints .u8 32 (fun _ => 0)), (V.ints .u64 4 (minusO o (up 0 2 (fun _ => 0)))), (V.ints .u8 32 q)]⟩ = (okV R (V.tup [(V.ints .u8 32 q), (V.bool true)])) := by kernel_rfl
def EE : Int := 7237005577332262213973186563042994240857116359379907606001950938285454250987
def two4 : Nat → Int := up 0 2 (fun _ => 0)
theorem pw_v {o : Nat → Int} (ho : eqN 4 o ordF = true) : ∀ j, j < 4 → minusO o (up 0 2 (fun _ => 0)) j = wF EE j := by
  obtain ⟨o1, o2⟩ := eq_ord ho
  have t1 : u4 (up 0 2 (fun _ => 0)) = true := by decide
  have t2 : lv4 (up 0 2 (fun _ => 0)) = 2 := by decide
  have h1 := (minus_v o1 t1).2
  have h2 := (minus_ge o1 t1 (by rw [o2, t2]; omega)).1
  rw [o2, t2] at h2
  rw [minusO_eq]
  have := words_at h1
  rw [h2] at this
  exact this
theorem inv_bit {o : Nat → Int} (ho : eqN 4 o ordF = true) {i : Nat} (hi : i < 256) : andI .u64 (shrI .u64 (minusO o (up 0 2 (fun _ => 0)) (0 + (Int.toNat (quoI .i64 (i : Int) 64) * 1))) (remI (i : Int) 64)) 1 = EE / 2 ^ i % 2 := by
  rw [show quoI .i64 (i : Int) 64 = ((i / 64 : Nat) : Int) from quo_nat i 64 (by omega), show remI (i : Int) 64 = ((i % 64 : Nat) : Int) from rem_nat i 64]
  simp only [Int.toNat_natCast, Nat.mul_one, Nat.zero_add]
  rw [pw_v ho _ (by omega), and1, shrU _ _ (by omega)]
  have := digit_bit (k := 64) (a := wF EE) (n := 4) (m := i / 64) (r := i % 64) (fun j _ => by unfold wF; simp only [Int.reducePow]; omega) (by omega) (by omega)
  rw [Nat.div_add_mod] at this
  rw [← this]
  have e := dv_digits (B := 18446744073709551616) (by omega) (n := 4) (N := EE)
  have e2 : dv (2 ^ 64) 4 (wF EE) = EE := by
    show dv 18446744073709551616 4 (fun j => EE / 18446744073709551616 ^ j % 18446744073709551616) = EE
    rw [e]; decide
  rw [e2]
/-- The power, bit by bit from the highest on: behind k rounds. -/
noncomputable def invR (a : Nat → Int) : Nat → Nat → Int
  | 0 => up 0 1 (fun _ => 0)
  | k + 1 => cond (EE / 2 ^ (255 - k) % 2 == 1) (mulO (mulO (invR a k) (invR a k)) a) (mulO (invR a k) (invR a k))
theorem pow_mod (x : Int) (n : Nat) : (x ^ n % LL) = (x % LL) ^ n % LL := by
  induction n with
  | zero => simp
  | succ n ih => rw [Int.pow_succ, Int.pow_succ, Int.mul_emod, ih, Int.mul_emod ((x % LL) ^ n), Int.emod_emod_of_dvd x (Int.dvd_refl LL)]
theorem exp_step {E : Int} (h0 : 0 ≤ E) (i : Nat) : (E / 2 ^ i).toNat = 2 * (E / 2 ^ (i + 1)).toNat + (E / 2 ^ i % 2).toNat := by
  have h1 : E / 2 ^ (i + 1) = E / 2 ^ i / 2 := by rw [Int.pow_succ, Int.ediv_ediv_of_nonneg (Int.le_of_lt (pow_pos' (by omega) i))]
  have h2 : 0 ≤ E / 2 ^ i := Int.ediv_nonneg h0 (Int.le_of_lt (pow_pos' (by omega) i))
  rw [h1]; omega
theorem invR_v (a : Nat → Int) : ∀ k, k ≤ 256 → num (invR a k) = num a ^ (EE / 2 ^ (256 - k)).toNat % LL
  | 0, _ => by
    show num (up 0 1 (fun _ => 0)) = _
    rw [show num (up 0 1 (fun _ => 0)) = 1 from num_up (by omega) (by omega), show Int.toNat (EE / (2 : Int) ^ (256 - 0)) = 0 by decide, Int.pow_zero]
    decide
  | k + 1, hk => by
    have ih := invR_v a k (by omega)
    have hs := exp_step (E := EE) (by decide) (255 - k)
    rw [show 255 - k + 1 = 256 - k by omega] at hs
    rw [show 256 - (k + 1) = 255 - k by omega]
    have hsq : num (mulO (invR a k) (invR a k)) = num a ^ (2 * (EE / 2 ^ (256 - k)).toNat) % LL := by
      rw [num_mul, ih, ma, mb, ← Int.pow_add]
      congr 2
      omega
    have ht : EE / 2 ^ (255 - k) % 2 = 0 ∨ EE / 2 ^ (255 - k) % 2 = 1 := by omega
    simp only [invR]
    rcases ht with ht | ht
    · rw [ht] at hs ⊢
      rw [show ((0 : Int) == 1) = false from rfl, cond_false, hsq, hs]; rfl
    · rw [ht] at hs ⊢
      rw [show ((1 : Int) == 1) = true from rfl, cond_true, num_mul, hsq, ma, hs, ← Int.pow_succ]; rfl
noncomputable def invO : (Nat → Int) → Nat → Int := Classical.choose (hide_ex fun a => stF (num a ^ EE.toNat % LL))
theorem invO_eq : invO = fun a => stF (num a ^ EE.toNat % LL) := Classical.choose_spec (hide_ex fun a => stF (num a ^ EE.toNat % LL))
noncomputable def invB : (Nat → Int) → Bool := Classical.choose (hide_ex fun a => !(num a % LL == 0))
theorem invB_eq : invB = fun a => !(num a % LL == 0) := Classical.choose_spec (hide_ex fun a => !(num a % LL == 0))
theorem invR_st (a : Nat → Int) (k : Nat) : invR a (k + 1) = stF (num (invR a (k + 1))) := by
  simp only [invR]
  cases (EE / 2 ^ (255 - k) % 2 == 1)
  · exact mul_st _ _
  · exact mul_st _ _
theorem inv_last (a : Nat → Int) : invR a 256 = invO a := by
  have h := invR_v a 256 (Nat.le_refl _)
  rw [Nat.sub_self, Int.pow_zero, Int.ediv_one] at h
  have : invR a 256 = stF (num (invR a 256)) := invR_st a 255
  rw [this, h, invO_eq]
theorem red_zero (a : Nat → Int) : (eqN 4 (redO 4 (loadO a)) (fun _ => 0)) = (num a % LL == 0) := by
  have h : lv4 (redO 4 (loadO a)) = num a % LL := red_lv _ _
  rw [Bool.eq_iff_iff, beq_iff_eq]
  constructor
  · intro e
    have := lv4_congr (eqN_at e)
    rw [h] at this
    rw [this]; decide
  · intro e
    refine eqN_mk fun j hj => ?_
    rw [red_n j hj]
    have : lvn 4 (loadO a) % LL = 0 := e
    rw [this]
    have : j = 0 ∨ j = 1 ∨ j = 2 ∨ j = 3 := by omega
    rcases this with rfl | rfl | rfl | rfl <;> decide
theorem inv_l {o a : Nat → Int} (ho : eqN 4 o ordF = true) (hb : invB a = true) : ∀ (k m : Nat), k ≤ 256 → k + 1 ≤ m → ∀ (t20 t21 t22 t23 t24 t25 t26 t27 t28 t29 t30 t31 t32 t33 t34 t35 t36 t37 t38 : V),
    lp (awp Tryd.prog p35 noG 300 (loopOf (body Tryd.f31))) (spineQ Tryd.prog p35 noG 300 (body Tryd.f31) (ends Tryd.prog Tryd.f31 fun v _ => okV (V.tup [V.ints .u8 32 (invO a), V.bool (invB a)]) v)) m ⟨[(V.ints .u8 32 a), (V.ptr 1 0), (V.ptr 2 0), (V.bool false), (V.ptr 3 0), (V.int .u64 (bcO o (up 0 2 (fun _ => 0)))), (V.ptr 4 0), (V.int .i64 ((k : Int) - 1)), (V.ints .u8 32 a), (V.ints .u64 4 (redO 4 (loadO a))), (V.ints .u64 4 (fun _ => 0)), (V.bool (eqN 4 (redO 4 (loadO a)) (fun _ => 0))), V.un, (V.tup [(V.ints .u64 4 (minusO o (up 0 2 (fun _ => 0)))), (V.int .u64 (bcO o (up 0 2 (fun _ => 0))))]), (V.ints .u64 4 o), (V.ints .u64 4 (up 0 2 (fun _ => 0))), (V.tup [(V.ints .u64 4 (minusO o (up 0 2 (fun _ => 0)))), (V.int .u64 (bcO o (up 0 2 (fun _ => 0))))]), (V.ints .u64 4 (minusO o (up 0 2 (fun _ => 0)))), (V.int .u64 (bcO o (up 0 2 (fun _ => 0)))), (V.ints .u8 32 (up 0 1 (fun _ => 0))), t20, t21, t22, t23, t24, t25, t26, t27, t28, t29, t30, t31, t32, t33, t34, t35, t36, t37, t38, V.un], [(V.tup [V.fn 2, (V.ints .u64 4 o)]), (V.ints .u8 32 a), (V.ints .u8 32 (fun _ => 0)), (V.ints .u64 4 (minusO o (up 0 2 (fun _ => 0)))), (V.ints .u8 32 (invR a (256 - k)))]⟩
  | 0, m, _, hm, t20, t21, t22, t23, t24, t25, t26, t27, t28, t29, t30, t31, t32, t33, t34, t35, t36, t37, t38 => by
    obtain ⟨m, rfl⟩ : ∃ z, m = z + 1 := ⟨m - 1, by omega⟩
    rw [inv_s]
    refine mBt (fun h => absurd (of_decide_eq_true h) (by omega)) (fun _ => ?_)
    rw [inv_x, inv_last, hb]
    exact okV_refl rfl
  | k + 1, m, hk, hm, t20, t21, t22, t23, t24, t25, t26, t27, t28, t29, t30, t31, t32, t33, t34, t35, t36, t37, t38 => by
    obtain ⟨m, rfl⟩ : ∃ z, m = z + 1 := ⟨m - 1, by omega⟩
    have e1 : (((k + 1 : Nat) : Int) - 1) = (k : Int) := by omega
    rw [e1, inv_s]
    have hq : quoI .i64 (k : Int) 64 = ((k / 64 : Nat) : Int) := quo_nat k 64 (by omega)
    have hr : remI (k : Int) 64 = ((k % 64 : Nat) : Int) := rem_nat k 64
    have g1 : decide (0 ≤ quoI .i64 (k : Int) 64 ∧ quoI .i64 (k : Int) 64 < 4) = true := by rw [hq]; exact decide_eq_true (by omega)
    have g2 : Nat.blt (0 + (Int.toNat (quoI .i64 (k : Int) 64) * 1)) 4 = true := by rw [hq, Int.toNat_natCast]; exact bltT.2 (by omega)
    have g3 : decide (0 ≤ remI (k : Int) 64) = true := by rw [hr]; exact decide_eq_true (by omega)
    have hnx : subI .i64 (k : Int) 1 = (k : Int) - 1 := sub1_nat k (by omega)
    refine mBt (fun _ => ?_) (fun h => absurd (of_decide_eq_false h) (by omega))
    have hsub : 256 - k = 256 - (k + 1) + 1 := by omega
    have hsub2 : 255 - (256 - (k + 1)) = k := by omega
    refine gm ho (gm g1 (gm g2 (gm g3 (mBt (fun h => gm ho ?_) (fun h => ?_)))))
    · rw [hnx]
      rw [inv_bit ho (show k < 256 by omega)] at h
      have hi : invR a (256 - k) = mulO (mulO (invR a (256 - (k + 1))) (invR a (256 - (k + 1)))) a := by
        rw [hsub]
        simp only [invR, hsub2, h, cond_true]
      rw [← hi]
      exact inv_l ho hb k m (by omega) (by omega) _ _ _ _ _ _ _ _ _ _ _ _ _ _ _ _ _ _ _
    · rw [hnx]
      rw [inv_bit ho (show k < 256 by omega)] at h
      have hi : invR a (256 - k) = mulO (invR a (256 - (k + 1))) (invR a (256 - (k + 1))) := by
        rw [hsub]
        simp only [invR, hsub2, h, cond_false]
      rw [← hi]
      exact inv_l ho hb k m (by omega) (by omega) _ _ _ _ _ _ _ _ _ _ _ _ _ _ _ _ _ _ _
theorem inv_a {o a : Nat → Int} (ho : eqN 4 o ordF = true) : awp Tryd.prog p35 noG 300 (body Tryd.f31) (ends Tryd.prog Tryd.f31 fun v _ => okV (V.tup [V.ints .u8 32 (invO a), V.bool (invB a)]) v) ⟨[V.ints .u8 32 a] ++ List.replicate 39 V.un, [V.tup [V.fn 2, V.ints .u64 4 o]]⟩ := by
  rw [inv_h]
  refine gm ho (mBt (fun h => ?_) (fun h => ?_))
  · rw [red_zero] at h
    have h1 : invB a = false := by rw [invB_eq]; simp only [h, Bool.not_true]
    have h2 : invO a = fun _ => 0 := by
      rw [invO_eq]
      dsimp only
      rw [pow_mod, beq_iff_eq.1 h]
      funext j
      rw [show ((0 : Int) ^ EE.toNat % LL) = 0 by rw [Int.zero_pow (by decide)]; rfl]
      unfold stF; simp
    rw [h1, h2]
    exact okV_refl rfl
  · rw [red_zero] at h
    have h1 : invB a = true := by rw [invB_eq]; simp only [h, Bool.not_false]
    have := inv_l ho h1 256 300 (Nat.le_refl _) (by omega) V.un V.un V.un V.un V.un V.un V.un V.un V.un V.un V.un V.un V.un V.un V.un V.un V.un V.un V.un
    rw [show (((256 : Nat) : Int) - 1) = 255 by decide, Nat.sub_self] at this
    exact this
noncomputable def g31 : List V → List V → Option (Bool × V) := fun vs m => match views [2] vs m with
  | some ([.ints .u8 32 a], [.tup [.fn 2, .ints .u64 4 o]]) => some (eqN 4 o ordF, .tup [.ints .u8 32 (invO a), .bool (invB a)])
  | _ => none
theorem g31_ok (vs m : List V) (v : V) (h : g31 vs m = some (true, v)) : v.flat = true ∧ ∀ μ B w0 w, Under B w0 → Rel μ B w0 m w → PureAt Tryd.prog 31 (vs.map (V.den μ)).toArray (v.den μ) w := by
  unfold g31 at h
  split at h
  · rename_i a o hv
    simp only [Option.some.injEq, Prod.mk.injEq] at h
    obtain ⟨h1, rfl⟩ := h
    refine ⟨rfl, ?_⟩
    exact reads_ok (fn := Tryd.f31) (N := 300) (n := 39) hM p35_ok (noG_ok _) Tryd.func31 (by kernel_rfl) (by kernel_rfl) hv rfl (inv_a h1) (by kernel_rfl)
  · cases h
theorem g31_grow (vs m : List V) (z : V) (r : Bool × V) (h : g31 vs m = some r) : g31 vs (m ++ [z]) = some r := by
  unfold g31 at h ⊢
  cases hv : views [2] vs m with
  | none => rw [hv] at h; cases h
  | some p => rw [hv] at h; rw [views_grow hv]; exact h
noncomputable def p31 : Orc := extM 31 g31 p35
theorem p31_ok : OrcOK Tryd.prog p31 := extM_ok p35_ok g31_ok g31_grow
noncomputable def lawField (a : (Nat → Int)) (b : (Nat → Int)) : Bool := (cond (!((invB a) == (!(eqN 32 (addO a (fun _ => 0)) (fun _ => 0))))) false (cond (!(invB a)) (eqN 32 (invO a) (fun _ => 0)) (cond (invB (invO a)) (cond (canO (invO a)) (cond (eqN 32 (mulO a (invO a)) oneF) (cond (eqN 32 (invO (invO a)) (addO a (fun _ => 0))) (eqN 32 (mulO (mulO b a) (invO a)) (addO b (fun _ => 0))) false) false) false) false)))
theorem lawField_t (a : (Nat → Int)) (b : (Nat → Int)) : awp Tryd.prog p31 noG 300 (body Tryd.f12) (ends Tryd.prog Tryd.f12 fun v _ => okV (V.bool (lawField a b)) v) ⟨[(V.ints .u8 32 a), (V.ints .u8 32 b)] ++ List.replicate 64 V.un, [(V.tup [V.fn 2, (V.ints .u64 4 ordF)]), (V.tup [V.fn 0, (V.ints .u8 32 oneF)]), (V.tup [V.fn 3, (V.ints .u8 32 twoF)])]⟩ = (mB (!((invB a) == (!(eqN 32 (addO a (fun _ => 0)) (fun _ => 0))))) ((V.bool false).den z0 = (V.bool (lawField a b)).den z0) (mB (!(invB a)) ((V.bool (eqN 32 (invO a) (fun _ => 0))).den z0 = (V.bool (lawField a b)).den z0) (mB (invB (invO a)) (mB (canO (invO a)) (mB (eqN 32 (mulO a (invO a)) oneF) (mB (eqN 32 (invO (invO a)) (addO a (fun _ => 0))) ((V.bool (eqN 32 (mulO (mulO b a) (invO a)) (addO b (fun _ => 0)))).den z0 = (V.bool (lawField a b)).den z0) ((V.bool false).den z0 = (V.bool (lawField a b)).den z0)) ((V.bool false).den z0 = (V.bool (lawField a b)).den z0)) ((V.bool false).den z0 = (V.bool (lawField a b)).den z0)) ((V.bool false).den z0 = (V.bool (lawField a b)).den z0)))) := by kernel_rfl
theorem lawField_a (a : (Nat → Int)) (b : (Nat → Int)) : awp Tryd.prog p31 noG 300 (body Tryd.f12) (ends Tryd.prog Tryd.f12 fun v _ => okV (V.bool (lawField a b)) v) ⟨[(V.ints .u8 32 a), (V.ints .u8 32 b)] ++ List.replicate 64 V.un, [(V.tup [V.fn 2, (V.ints .u64 4 ordF)]), (V.tup [V.fn 0, (V.ints .u8 32 oneF)]), (V.tup [V.fn 3, (V.ints .u8 32 twoF)])]⟩ := by
  rw [lawField_t]
  refine mBt (fun h1 => ?_) (fun h1 => ?_)
  · simp only [lawField, h1, cond_true]
  · refine mBt (fun h2 => ?_) (fun h2 => ?_)
    · simp only [lawField, h1, h2, cond_true, cond_false]
    · refine mBt (fun h3 => ?_) (fun h3 => ?_)
      · refine mBt (fun h4 => ?_) (fun h4 => ?_)
        · refine mBt (fun h5 => ?_) (fun h5 => ?_)
          · refine mBt (fun h6 => ?_) (fun h6 => ?_)
            · simp only [lawField, h1, h2, h3, h4, h5, h6, cond_true, cond_false]
            · simp only [lawField, h1, h2, h3, h4, h5, h6, cond_true, cond_false]
          · simp only [lawField, h1, h2, h3, h4, h5, cond_true, cond_false]
        · simp only [lawField, h1, h2, h3, h4, cond_true, cond_false]
      · simp only [lawField, h1, h2, h3, cond_false]
end Go.Proofs.YtnoehjibponofaaDoor

/-
  L is a prime number; the law of the field answers true. Conditions: none.
-/
namespace Go.Num
theorem pl1 : Pr 2551 := trial (K := 50) (by decide) (by decide) (by decide +kernel)
theorem pl2 : Pr 1224481 := pock' (q := 2551) (R := 480) (g := 2) (K := 0) (by decide) (by decide) pl1 (by decide) (by decide +kernel) (by decide +kernel) (by decide) (by decide)
theorem pl3 : Pr 1257559732178653 := pock' (q := 1224481) (R := 1027014492) (g := 2) (K := 28) (by decide) (by decide) pl2 (by decide) (by decide +kernel) (by decide +kernel) (by decide) (by decide +kernel)
theorem pl4 : Pr 4434155615661930479 := pock' (q := 1257559732178653) (R := 3526) (g := 2) (K := 0) (by decide) (by decide) pl3 (by decide) (by decide +kernel) (by decide +kernel) (by decide) (by decide)
theorem pl5 : Pr 172054593956031949258510691 := pock' (q := 4434155615661930479) (R := 38802110) (g := 2) (K := 0) (by decide) (by decide) pl4 (by decide) (by decide +kernel) (by decide +kernel) (by decide) (by decide)
theorem pl6 : Pr 19757330305831588566944191468367130476339 := pock' (q := 172054593956031949258510691) (R := 114831751082918) (g := 2) (K := 0) (by decide) (by decide) pl5 (by decide) (by decide +kernel) (by decide +kernel) (by decide) (by decide)
theorem pl7 : Pr 276602624281642239937218680557139826668747 := pock' (q := 19757330305831588566944191468367130476339) (R := 14) (g := 2) (K := 0) (by decide) (by decide) pl6 (by decide) (by decide +kernel) (by decide +kernel) (by decide) (by decide)
theorem prL : Pr 7237005577332262213973186563042994240857116359379907606001950938285454250989 := pock' (q := 276602624281642239937218680557139826668747) (R := 26163907866482859529727157400808004) (g := 2) (K := 0) (by decide) (by decide) pl7 (by decide) (by decide +kernel) (by decide +kernel) (by decide) (by decide)
end Go.Num
namespace Go.Proofs.YtnoehjibponofaaDoor
open Go.Ev Go.Num
theorem ferL {X : Int} (hx : X % LL ≠ 0) : X ^ (EE.toNat + 1) % LL = 1 := by
  have h := fermat_int prL (X := X) (by
    have : ((7237005577332262213973186563042994240857116359379907606001950938285454250989 : Nat) : Int) = LL := rfl
    rw [this]; exact hx)
  exact h
theorem num_inv (a : Nat → Int) : num (invO a) = num a ^ EE.toNat % LL := by rw [invO_eq]; exact num_mod _
theorem inv_st (a : Nat → Int) : invO a = stF (num (invO a)) := by rw [num_inv, invO_eq]
theorem inv_mul {a : Nat → Int} (h : num a % LL ≠ 0) : (num a * num (invO a)) % LL = 1 := by
  rw [num_inv, mb, Int.mul_comm, ← Int.pow_succ]
  exact ferL h
theorem inv_nz {a : Nat → Int} (h : num a % LL ≠ 0) : num (invO a) % LL ≠ 0 := by
  intro e
  have h1 := inv_mul h
  rw [← mb, e, Int.mul_zero] at h1
  exact absurd h1 (by decide)
theorem inv_inv {a : Nat → Int} (h : num a % LL ≠ 0) : num (invO (invO a)) % LL = num a % LL := by
  have h1 := inv_mul h
  have h2 := inv_mul (inv_nz h)
  generalize num (invO (invO a)) = z at *
  generalize num (invO a) = y at *
  generalize num a = x at *
  have e1 : (z * (x * y)) % LL = z % LL := by rw [← mb, h1, Int.mul_one]
  have e2 : (x * (y * z)) % LL = x % LL := by rw [← mb, h2, Int.mul_one]
  rw [← e1, ← e2]
  congr 1
  rw [Int.mul_comm z, Int.mul_assoc]
theorem add0 (a : Nat → Int) : num (addO a fun _ => 0) = num a % LL := by rw [num_add, num_zero, Int.add_zero]
theorem lawField_true (a b : Nat → Int) : lawField a b = true := by
  have e0 : (eqN 32 (addO a fun _ => 0) fun _ => 0) = (num a % LL == 0) := by
    rw [Bool.eq_iff_iff, beq_iff_eq]
    constructor
    · intro e
      have := num_congr (eqN_at e)
      rwa [add0, num_zero] at this
    · intro e
      exact eq_st (add_st _ _) zero_st (by rw [add0, num_zero, e])
  have e1 : (invB a == !(eqN 32 (addO a fun _ => 0) fun _ => 0)) = true := by rw [e0, invB_eq]; simp
  by_cases h : num a % LL = 0
  · have hb : invB a = false := by rw [invB_eq]; simp [h]
    have e2 : eqN 32 (invO a) (fun _ => 0) = true := eq_st (inv_st _) zero_st (by
      rw [num_inv, pow_mod, h, num_zero, Int.zero_pow (by decide)]; rfl)
    unfold lawField
    rw [e1]
    simp only [e2, hb, Bool.not_true, Bool.not_false, cond_true, cond_false]
  · have hb : invB a = true := by rw [invB_eq]; simp [h]
    have hb2 : invB (invO a) = true := by rw [invB_eq]; simp [inv_nz h]
    have e3 : canO (invO a) = true := can_mod _ (num_inv a)
    have e4 : eqN 32 (mulO a (invO a)) oneF = true := eq_st (mul_st _ _) (by rw [num_one]; funext j; exact (st_small (by omega) (by omega) j).symm) (by rw [num_mul, inv_mul h, num_one])
    have e5 : eqN 32 (invO (invO a)) (addO a fun _ => 0) = true := eq_st (inv_st _) (add_st _ _) (by
      rw [add0, ← inv_inv h, num_inv, mm])
    have e6 : eqN 32 (mulO (mulO b a) (invO a)) (addO b fun _ => 0) = true := eq_st (mul_st _ _) (add_st _ _) (by
      rw [add0, num_mul, num_mul, ma, Int.mul_assoc, ← mb, inv_mul h, Int.mul_one])
    unfold lawField
    rw [e1]
    simp only [e3, e4, e5, e6, hb, hb2, Bool.not_true, cond_true, cond_false]
end Go.Proofs.YtnoehjibponofaaDoor

/-
  Digits: signed digits to the base 16; they make the number again. Conditions: none.
-/
namespace Go.Proofs.YtnoehjibponofaaDoor
open Go.Ev Go.Num
def nibF (a : Nat → Int) (i : Nat) : Int := andI .u8 (shrI .u8 (a (i / 2)) ((4 * (i % 2) : Nat) : Int)) 15
def dgK (a : Nat → Int) : Nat → Int
  | 0 => 0
  | k + 1 => shrI .i8 (addI .i8 (addI .i8 (IntKind.wrap .i8 (nibF a k)) (dgK a k)) 8) 4
def dgF (a : Nat → Int) : Nat → (Nat → Int)
  | 0 => fun _ => 0
  | k + 1 => up k (subI .i8 (addI .i8 (IntKind.wrap .i8 (nibF a k)) (dgK a k)) (shlI .i8 (shrI .i8 (addI .i8 (addI .i8 (IntKind.wrap .i8 (nibF a k)) (dgK a k)) 8) 4) 4)) (dgF a k)
theorem dig_t (o a : Nat → Int) (r : V) : awp Tryd.prog p31 noG 300 (body Tryd.f13) (ends Tryd.prog Tryd.f13 fun v _ => okV r v) ⟨[V.ints .u8 32 a] ++ List.replicate 37 V.un, [V.tup [V.fn 2, V.ints .u64 4 o]]⟩ = (gB (eqN 4 o ordF) (mB (!(canO a)) (okV r (V.tup [V.ints .i8 64 (fun _ => 0), V.bool false])) (okV r (V.tup [V.ints .i8 64 (dgF a 64), V.bool true])))) := by kernel_rfl
noncomputable def digO : (Nat → Int) → Nat → Int := Classical.choose (hide_ex fun a => cond (canO a) (dgF a 64) (fun _ => 0))
theorem digO_eq : digO = fun a => cond (canO a) (dgF a 64) (fun _ => 0) := Classical.choose_spec (hide_ex fun a => cond (canO a) (dgF a 64) (fun _ => 0))
theorem dig_a {o a : Nat → Int} (ho : eqN 4 o ordF = true) : awp Tryd.prog p31 noG 300 (body Tryd.f13) (ends Tryd.prog Tryd.f13 fun v _ => okV (V.tup [V.ints .i8 64 (digO a), V.bool (canO a)]) v) ⟨[V.ints .u8 32 a] ++ List.replicate 37 V.un, [V.tup [V.fn 2, V.ints .u64 4 o]]⟩ := by
  rw [dig_t]
  refine gm ho (mBt (fun h => ?_) (fun h => ?_))
  · have h : canO a = false := by simpa using h
    rw [digO_eq]
    simp only [h, cond_false]
    exact okV_refl rfl
  · have h : canO a = true := by simpa using h
    rw [digO_eq]
    simp only [h, cond_true]
    exact okV_refl rfl
noncomputable def g13 : List V → List V → Option (Bool × V) := fun vs m => match views [2] vs m with
  | some ([.ints .u8 32 a], [.tup [.fn 2, .ints .u64 4 o]]) => some (eqN 4 o ordF, .tup [.ints .i8 64 (digO a), .bool (canO a)])
  | _ => none
theorem g13_ok (vs m : List V) (v : V) (h : g13 vs m = some (true, v)) : v.flat = true ∧ ∀ μ B w0 w, Under B w0 → Rel μ B w0 m w → PureAt Tryd.prog 13 (vs.map (V.den μ)).toArray (v.den μ) w := by
  unfold g13 at h
  split at h
  · rename_i a o hv
    simp only [Option.some.injEq, Prod.mk.injEq] at h
    obtain ⟨h1, rfl⟩ := h
    refine ⟨rfl, ?_⟩
    exact reads_ok (fn := Tryd.f13) (N := 300) (n := 37) hM p31_ok (noG_ok _) Tryd.func13 (by kernel_rfl) (by kernel_rfl) hv rfl (dig_a h1) (by kernel_rfl)
  · cases h
theorem g13_grow (vs m : List V) (z : V) (r : Bool × V) (h : g13 vs m = some r) : g13 vs (m ++ [z]) = some r := by
  unfold g13 at h ⊢
  cases hv : views [2] vs m with
  | none => rw [hv] at h; cases h
  | some p => rw [hv] at h; rw [views_grow hv]; exact h
noncomputable def p13 : Orc := extM 13 g13 p31
theorem p13_ok : OrcOK Tryd.prog p13 := extM_ok p31_ok g13_ok g13_grow
/-! ### The digits as numbers -/
theorem shrU8 (a : Int) (k : Nat) (hk : k ≤ 8) : shrI .u8 a (k : Int) = a / 2 ^ k := by
  unfold shrI
  rw [show min (Int.toNat (k : Int)) (IntKind.bits .u8) = k from Nat.min_eq_left hk]
  exact Int.fdiv_eq_ediv_of_nonneg _ (by exact_mod_cast Nat.zero_le (2 ^ k))
theorem and8_15 (a : Int) : andI .u8 a 15 = a % 16 := by
  unfold andI bits2
  have e1 : (BitVec.ofInt (IntKind.bits .u8) a).toNat = (a % 256).toNat := by rw [BitVec.toNat_ofInt]; rfl
  have e2 : (BitVec.ofInt (IntKind.bits .u8) 15).toNat = 2 ^ 4 - 1 := by decide
  rw [BitVec.toNat_and, e1, e2, Nat.and_two_pow_sub_one_eq_mod, wrap_u8]
  omega
theorem nib_v (a : Nat → Int) (i : Nat) : nibF a i = a (i / 2) / 16 ^ (i % 2) % 16 := by
  unfold nibF
  rw [and8_15, shrU8 _ _ (by omega), Int.pow_mul]; rfl
theorem nib_lt (a : Nat → Int) (i : Nat) : 0 ≤ nibF a i ∧ nibF a i < 16 := by rw [nib_v]; omega
theorem dv16 : ∀ (n : Nat) (a : Nat → Int), By n a → dv 256 n a = dv 16 (2 * n) (nibF a)
  | 0, _, _ => rfl
  | n + 1, a, h => by
    have ih := dv16 n (fun i => a (i + 1)) (fun j hj => h (j + 1) (by omega))
    rw [show 2 * (n + 1) = (2 * n + 1) + 1 by omega, dv, dv, dv, ih]
    have e : (fun i => nibF a (i + 1 + 1)) = nibF (fun i => a (i + 1)) := by
      funext i
      rw [nib_v, nib_v, show (i + 1 + 1) / 2 = i / 2 + 1 by omega, show (i + 1 + 1) % 2 = i % 2 by omega]
    obtain ⟨h0, h1⟩ := h 0 (by omega)
    have n0 : nibF a 0 = a 0 % 16 := by rw [nib_v]; simp
    have n1 : nibF a (0 + 1) = a 0 / 16 := by rw [nib_v]; simp; omega
    rw [e, n0, n1]
    generalize dv 16 (2 * n) (nibF fun i => a (i + 1)) = x
    omega
theorem shl8 {c : Int} (h0 : 0 ≤ c) (h1 : c ≤ 1) : shlI .i8 c 4 = 16 * c := by
  have : c = 0 ∨ c = 1 := by omega
  rcases this with rfl | rfl <;> decide
theorem shr8i {x : Int} : shrI .i8 x 4 = x / 16 := by
  unfold shrI
  exact Int.fdiv_eq_ediv_of_nonneg _ (by decide)
theorem dg_v (a : Nat → Int) : ∀ k, (0 ≤ dgK a k ∧ dgK a k ≤ 1) ∧ (∀ j, j < k → -8 ≤ dgF a k j ∧ dgF a k j ≤ 7) ∧ dv 16 k (dgF a k) + pw 16 k * dgK a k = dv 16 k (nibF a)
  | 0 => ⟨⟨by simp [dgK], by simp [dgK]⟩, fun j hj => by omega, by simp [dv, dgK]⟩
  | k + 1 => by
    obtain ⟨⟨h0, h1⟩, h2, h3⟩ := dg_v a k
    obtain ⟨n0, n1⟩ := nib_lt a k
    have e1 : addI .i8 (IntKind.wrap .i8 (nibF a k)) (dgK a k) = nibF a k + dgK a k := by
      unfold addI
      rw [IntWalk.i8_in (nibF a k) (by omega), IntWalk.i8_in _ (by omega)]
    have e2 : shrI .i8 (addI .i8 (nibF a k + dgK a k) 8) 4 = (nibF a k + dgK a k + 8) / 16 := by
      rw [shr8i]; unfold addI; rw [IntWalk.i8_in _ (by omega)]
    simp only [dgK, dgF]
    rw [e1, e2, shl8 (by omega) (by omega)]
    have e3 : subI .i8 (nibF a k + dgK a k) (16 * ((nibF a k + dgK a k + 8) / 16)) = nibF a k + dgK a k - 16 * ((nibF a k + dgK a k + 8) / 16) := by
      unfold subI; rw [IntWalk.i8_in _ (by omega)]
    rw [e3]
    refine ⟨⟨by omega, by omega⟩, fun j hj => ?_, ?_⟩
    · rw [up_at]
      split
      · omega
      · exact h2 j (by omega)
    · rw [dv_top, dv_top, up_at, if_pos rfl, dv_congr (b := dgF a k) fun i hi => by rw [up_at, if_neg (by omega)], pw, Int.mul_sub, Int.mul_add]
      generalize (nibF a k + dgK a k + 8) / 16 = q
      have : pw 16 k * (16 * q) = 16 * pw 16 k * q := by rw [← Int.mul_assoc, Int.mul_comm (pw 16 k)]
      omega
/-- The digits make the number. -/
theorem dig_sum {a : Nat → Int} (ha : By 32 a) (hc : canO a = true) : dv 16 64 (dgF a 64) = num a ∧ ∀ j, j < 64 → -8 ≤ dgF a 64 j ∧ dgF a 64 j ≤ 7 := by
  rw [can_iff] at hc
  have hc := of_decide_eq_true hc
  obtain ⟨⟨h0, h1⟩, h2, h3⟩ := dg_v a 64
  rw [← dv16 32 a ha, ← num_bytes ha] at h3
  have hk : dgK a 64 = 0 := by
    obtain ⟨⟨k0, k1⟩, -, h4⟩ := dg_v a 63
    have hb := dv_bound (B := 16) (by omega) (n := 63) (a := nibF a) fun i _ => nib_lt a i
    have hn : num a = dv 16 63 (nibF a) + pw 16 63 * nibF a 63 := by rw [num_bytes ha, dv16 32 a ha, dv_top]
    have hp : pw 16 63 = 7237005577332262213973186563042994240829374041602535252466099000494570602496 := by decide
    obtain ⟨n0, n1⟩ := nib_lt a 63
    have hn1 : nibF a 63 ≤ 1 := by
      rw [hp] at hn hb
      unfold LL at hc
      omega
    have e1 : addI .i8 (IntKind.wrap .i8 (nibF a 63)) (dgK a 63) = nibF a 63 + dgK a 63 := by
      unfold addI
      rw [IntWalk.i8_in (nibF a 63) (by omega), IntWalk.i8_in _ (by omega)]
    have e2 : shrI .i8 (addI .i8 (nibF a 63 + dgK a 63) 8) 4 = (nibF a 63 + dgK a 63 + 8) / 16 := by
      rw [shr8i]; unfold addI; rw [IntWalk.i8_in _ (by omega)]
    show shrI .i8 (addI .i8 (addI .i8 (IntKind.wrap .i8 (nibF a 63)) (dgK a 63)) 8) 4 = 0
    rw [e1, e2]
    omega
  rw [hk, Int.mul_zero, Int.add_zero] at h3
  exact ⟨h3, h2⟩
theorem dgb_h (a : Nat → Int) (N : Nat) (R : V) : awp Tryd.prog p13 noG N (body Tryd.f11) (ends Tryd.prog Tryd.f11 fun v _ => okV R v) ⟨[(V.ints .u8 32 a)] ++ List.replicate 72 V.un, [(V.tup [V.fn 2, (V.ints .u64 4 ordF)]), (V.tup [V.fn 0, (V.ints .u8 32 oneF)]), (V.tup [V.fn 3, (V.ints .u8 32 twoF)])]⟩ = (lp (awp Tryd.prog p13 noG N (loopOf (body Tryd.f11))) (spineQ Tryd.prog p13 noG N (body Tryd.f11) (ends Tryd.prog Tryd.f11 fun v _ => okV R v)) N ⟨[(V.ints .u8 32 a), (V.ptr 3 0), (V.bool false), (V.ptr 4 0), (V.bool (canO a)), (V.ptr 5 0), (V.int .i64 63), (V.tup [(V.ints .i8 64 (digO a)), (V.bool (canO a))]), (V.ints .u8 32 a), (V.tup [(V.ints .i8 64 (digO a)), (V.bool (canO a))]), (V.ints .i8 64 (digO a)), (V.bool (canO a)), V.un, V.un, V.un, V.un, V.un, V.un, V.un, V.un, V.un, V.un, V.un, V.un, V.un, V.un, V.un, V.un, V.un, V.un, V.un, V.un, V.un, V.un, V.un, V.un, V.un, V.un, V.un, V.un, V.un, V.un, V.un, V.un, V.un, V.un, V.un, V.un, V.un, V.un, V.un, V.un, V.un, V.un, V.un, V.un, V.un, V.un, V.un, V.un, V.un, V.un, V.un, V.un, V.un, V.un, V.un, V.un, V.un, V.un, V.un, V.un, V.un], [(V.tup [V.fn 2, (V.ints .u64 4 ordF)]), (V.tup [V.fn 0, (V.ints .u8 32 oneF)]), (V.tup [V.fn 3, (V.ints .u8 32 twoF)]), (V.ints .u8 32 a), (V.ints .i8 64 (digO a)), (V.ints .u8 32 (fun _ => 0))]⟩) := by kernel_rfl
theorem dgb_s (a : Nat → Int) (i : Int) (q : Nat → Int) (t12 t13 t14 t15 t16 t17 t18 t19 t20 t21 t22 t23 t24 t25 t26 t27 t28 t29 t30 t31 t32 t33 t34 t35 t36 t37 t38 t39 t40 t41 t42 t43 t44 t45 t46 t47 t48 t49 t50 t51 t52 t53 t54 t55 t56 t57 : V) (Q : Exit → St → Prop) (m : Nat) : lp (awp Tryd.prog p13 noG 300 (loopOf (body Tryd.f11))) Q (m + 1) ⟨[(V.ints .u8 32 a), (V.ptr 3 0), (V.bool false), (V.ptr 4 0), (V.bool (canO a)), (V.ptr 5 0), (V.int .i64 i), (V.tup [(V.ints .i8 64 (digO a)), (V.bool (canO a))]), (V.ints .u8 32 a), (V.tup [(V.ints .i8 64 (digO a)), (V.bool (canO a))]), (V.ints .i8 64 (digO a)), (V.bool (canO a)), t12, t13, t14, t15, t16, t17, t18, t19, t20, t21, t22, t23, t24, t25, t26, t27, t28, t29, t30, t31, t32, t33, t34, t35, t36, t37, t38, t39, t40, t41, t42, t43, t44, t45, t46, t47, t48, t49, t50, t51, t52, t53, t54, t55, t56, t57, V.un, V.un, V.un, V.un, V.un, V.un, V.un, V.un, V.un, V.un, V.un, V.un, V.un, V.un, V.un], [(V.tup [V.fn 2, (V.ints .u64 4 ordF)]), (V.tup [V.fn 0, (V.ints .u8 32 oneF)]), (V.tup [V.fn 3, (V.ints .u8 32 twoF)]), (V.ints .u8 32 a), (V.ints .i8 64 (digO a)), (V.ints .u8 32 q)]⟩ = (mB (decide (i ≥ 0)) (gB (decide (0 ≤ i ∧ i < 64)) (gB (Nat.blt (0 + (Int.toNat i * 1)) 64) (mB (decide (((digO a) (0 + (Int.toNat i * 1))) < (-8))) (Q .ret ⟨[(V.ints .u8 32 a), (V.ptr 3 0), (V.bool false), (V.ptr 4 0), (V.bool (canO a)), (V.ptr 5 0), (V.int .i64 i), (V.tup [(V.ints .i8 64 (digO a)), (V.bool (canO a))]), (V.ints .u8 32 a), (V.tup [(V.ints .i8 64 (digO a)), (V.bool (canO a))]), (V.ints .i8 64 (digO a)), (V.bool (canO a)), (V.int .i64 i), (V.bool (decide (i ≥ 0))), t14, t15, (V.int .i64 i), (V.ptr 4 (0 + (Int.toNat i * 1))), (V.int .i8 ((digO a) (0 + (Int.toNat i * 1)))), (V.bool (decide (((digO a) (0 + (Int.toNat i * 1))) < (-8)))), (V.bool true), V.un, V.un, V.un, V.un, (V.bool true), (V.bool true), V.un, V.un, V.un, V.un, V.un, V.un, V.un, V.un, (V.bool true), t36, t37, t38, t39, t40, t41, t42, t43, t44, t45, t46, t47, t48, t49, t50, t51, t52, t53, t54, t55, t56, t57, V.un, V.un, V.un, V.un, V.un, V.un, V.un, V.un, V.un, V.un, V.un, V.un, V.un, V.un, V.un], [(V.tup [V.fn 2, (V.ints .u64 4 ordF)]), (V.tup [V.fn 0, (V.ints .u8 32 oneF)]), (V.tup [V.fn 3, (V.ints .u8 32 twoF)]), (V.ints .u8 32 a), (V.ints .i8 64 (digO a)), (V.ints .u8 32 q)]⟩) (gB (decide (0 ≤ i ∧ i < 64)) (gB (Nat.blt (0 + (Int.toNat i * 1)) 64) (mB (decide (((digO a) (0 + (Int.toNat i * 1))) > 7)) (Q .ret ⟨[(V.ints .u8 32 a), (V.ptr 3 0), (V.bool false), (V.ptr 4 0), (V.bool (canO a)), (V.ptr 5 0), (V.int .i64 i), (V.tup [(V.ints .i8 64 (digO a)), (V.bool (canO a))]), (V.ints .u8 32 a), (V.tup [(V.ints .i8 64 (digO a)), (V.bool (canO a))]), (V.ints .i8 64 (digO a)), (V.bool (canO a)), (V.int .i64 i), (V.bool (decide (i ≥ 0))), t14, t15, (V.int .i64 i), (V.ptr 4 (0 + (Int.toNat i * 1))), (V.int .i8 ((digO a) (0 + (Int.toNat i * 1)))), (V.bool (decide (((digO a) (0 + (Int.toNat i * 1))) < (-8)))), (V.bool false), (V.int .i64 i), (V.ptr 4 (0 + (Int.toNat i * 1))), (V.int .i8 ((digO a) (0 + (Int.toNat i * 1)))), (V.bool (decide (((digO a) (0 + (Int.toNat i * 1))) > 7))), (V.bool (decide (((digO a) (0 + (Int.toNat i * 1))) > 7))), (V.bool true), V.un, V.un, V.un, V.un, V.un, V.un, V.un, V.un, (V.bool true), t36, t37, t38, t39, t40, t41, t42, t43, t44, t45, t46, t47, t48, t49, t50, t51, t52, t53, t54, t55, t56, t57, V.un, V.un, V.un, V.un, V.un, V.un, V.un, V.un, V.un, V.un, V.un, V.un, V.un, V.un, V.un], [(V.tup [V.fn 2, (V.ints .u64 4 ordF)]), (V.tup [V.fn 0, (V.ints .u8 32 oneF)]), (V.tup [V.fn 3, (V.ints .u8 32 twoF)]), (V.ints .u8 32 a), (V.ints .i8 64 (digO a)), (V.ints .u8 32 q)]⟩) (mB (!(canO a)) (gB (decide (0 ≤ i ∧ i < 64)) (gB (Nat.blt (0 + (Int.toNat i * 1)) 64) (mB (((digO a) (0 + (Int.toNat i * 1))) != 0) (Q .ret ⟨[(V.ints .u8 32 a), (V.ptr 3 0), (V.bool false), (V.ptr 4 0), (V.bool (canO a)), (V.ptr 5 0), (V.int .i64 i), (V.tup [(V.ints .i8 64 (digO a)), (V.bool (canO a))]), (V.ints .u8 32 a), (V.tup [(V.ints .i8 64 (digO a)), (V.bool (canO a))]), (V.ints .i8 64 (digO a)), (V.bool (canO a)), (V.int .i64 i), (V.bool (decide (i ≥ 0))), t14, t15, (V.int .i64 i), (V.ptr 4 (0 + (Int.toNat i * 1))), (V.int .i8 ((digO a) (0 + (Int.toNat i * 1)))), (V.bool (decide (((digO a) (0 + (Int.toNat i * 1))) < (-8)))), (V.bool false), (V.int .i64 i), (V.ptr 4 (0 + (Int.toNat i * 1))), (V.int .i8 ((digO a) (0 + (Int.toNat i * 1)))), (V.bool (decide (((digO a) (0 + (Int.toNat i * 1))) > 7))), (V.bool (decide (((digO a) (0 + (Int.toNat i * 1))) > 7))), (V.bool false), (V.bool (canO a)), (V.bool (!(canO a))), (V.bool true), (V.int .i64 i), (V.ptr 4 (0 + (Int.toNat i * 1))), (V.int .i8 ((digO a) (0 + (Int.toNat i * 1)))), (V.bool (((digO a) (0 + (Int.toNat i * 1))) != 0)), (V.bool (((digO a) (0 + (Int.toNat i * 1))) != 0)), (V.bool (((digO a) (0 + (Int.toNat i * 1))) != 0)), t36, t37, t38, t39, t40, t41, t42, t43, t44, t45, t46, t47, t48, t49, t50, t51, t52, t53, t54, t55, t56, t57, V.un, V.un, V.un, V.un, V.un, V.un, V.un, V.un, V.un, V.un, V.un, V.un, V.un, V.un, V.un], [(V.tup [V.fn 2, (V.ints .u64 4 ordF)]), (V.tup [V.fn 0, (V.ints .u8 32 oneF)]), (V.tup [V.fn 3, (V.ints .u8 32 twoF)]), (V.ints .u8 32 a), (V.ints .i8 64 (digO a)), (V.ints .u8 32 q)]⟩) (gB (decide (0 ≤ i ∧ i < 64)) (gB (Nat.blt (0 + (Int.toNat i * 1)) 64) (mB (decide (((digO a) (0 + (Int.toNat i * 1))) ≥ 0)) (gB (decide (0 ≤ i ∧ i < 64)) (gB (Nat.blt (0 + (Int.toNat i * 1)) 64) (lp (awp Tryd.prog p13 noG 300 (loopOf (body Tryd.f11))) Q m ⟨[(V.ints .u8 32 a), (V.ptr 3 0), (V.bool false), (V.ptr 4 0), (V.bool (canO a)), (V.ptr 5 0), (V.int .i64 (subI .i64 i 1)), (V.tup [(V.ints .i8 64 (digO a)), (V.bool (canO a))]), (V.ints .u8 32 a), (V.tup [(V.ints .i8 64 (digO a)), (V.bool (canO a))]), (V.ints .i8 64 (digO a)), (V.bool (canO a)), (V.int .i64 i), (V.bool (decide (i ≥ 0))), (V.int .i64 i), (V.int .i64 (subI .i64 i 1)), (V.int .i64 i), (V.ptr 4 (0 + (Int.toNat i * 1))), (V.int .i8 ((digO a) (0 + (Int.toNat i * 1)))), (V.bool (decide (((digO a) (0 + (Int.toNat i * 1))) < (-8)))), (V.bool false), (V.int .i64 i), (V.ptr 4 (0 + (Int.toNat i * 1))), (V.int .i8 ((digO a) (0 + (Int.toNat i * 1)))), (V.bool (decide (((digO a) (0 + (Int.toNat i * 1))) > 7))), (V.bool (decide (((digO a) (0 + (Int.toNat i * 1))) > 7))), (V.bool false), (V.bool (canO a)), (V.bool (!(canO a))), (V.bool true), (V.int .i64 i), (V.ptr 4 (0 + (Int.toNat i * 1))), (V.int .i8 ((digO a) (0 + (Int.toNat i * 1)))), (V.bool (((digO a) (0 + (Int.toNat i * 1))) != 0)), (V.bool (((digO a) (0 + (Int.toNat i * 1))) != 0)), (V.bool (((digO a) (0 + (Int.toNat i * 1))) != 0)), (V.ints .u8 32 q), (V.ints .u8 32 (up 0 16 (fun _ => 0))), (V.ints .u8 32 (mulO q (up 0 16 (fun _ => 0)))), (V.int .i64 i), (V.ptr 4 (0 + (Int.toNat i * 1))), (V.int .i8 ((digO a) (0 + (Int.toNat i * 1)))), (V.bool (decide (((digO a) (0 + (Int.toNat i * 1))) ≥ 0))), (V.ints .u8 32 (mulO q (up 0 16 (fun _ => 0)))), (V.int .i64 i), (V.ptr 4 (0 + (Int.toNat i * 1))), (V.int .i8 ((digO a) (0 + (Int.toNat i * 1)))), (V.int .u8 (IntKind.wrap .u8 ((digO a) (0 + (Int.toNat i * 1))))), (V.ints .u8 32 (up 0 (IntKind.wrap .u8 ((digO a) (0 + (Int.toNat i * 1)))) (fun _ => 0))), (V.ints .u8 32 (addO (mulO q (up 0 16 (fun _ => 0))) (up 0 (IntKind.wrap .u8 ((digO a) (0 + (Int.toNat i * 1)))) (fun _ => 0)))), t50, t51, t52, t53, t54, t55, t56, t57, V.un, V.un, V.un, V.un, V.un, V.un, V.un, V.un, V.un, V.un, V.un, V.un, V.un, V.un, V.un], [(V.tup [V.fn 2, (V.ints .u64 4 ordF)]), (V.tup [V.fn 0, (V.ints .u8 32 oneF)]), (V.tup [V.fn 3, (V.ints .u8 32 twoF)]), (V.ints .u8 32 a), (V.ints .i8 64 (digO a)), (V.ints .u8 32 (addO (mulO q (up 0 16 (fun _ => 0))) (up 0 (IntKind.wrap .u8 ((digO a) (0 + (Int.toNat i * 1)))) (fun _ => 0))))]⟩))) (gB (decide (0 ≤ i ∧ i < 64)) (gB (Nat.blt (0 + (Int.toNat i * 1)) 64) (lp (awp Tryd.prog p13 noG 300 (loopOf (body Tryd.f11))) Q m ⟨[(V.ints .u8 32 a), (V.ptr 3 0), (V.bool false), (V.ptr 4 0), (V.bool (canO a)), (V.ptr 5 0), (V.int .i64 (subI .i64 i 1)), (V.tup [(V.ints .i8 64 (digO a)), (V.bool (canO a))]), (V.ints .u8 32 a), (V.tup [(V.ints .i8 64 (digO a)), (V.bool (canO a))]), (V.ints .i8 64 (digO a)), (V.bool (canO a)), (V.int .i64 i), (V.bool (decide (i ≥ 0))), (V.int .i64 i), (V.int .i64 (subI .i64 i 1)), (V.int .i64 i), (V.ptr 4 (0 + (Int.toNat i * 1))), (V.int .i8 ((digO a) (0 + (Int.toNat i * 1)))), (V.bool (decide (((digO a) (0 + (Int.toNat i * 1))) < (-8)))), (V.bool false), (V.int .i64 i), (V.ptr 4 (0 + (Int.toNat i * 1))), (V.int .i8 ((digO a) (0 + (Int.toNat i * 1)))), (V.bool (decide (((digO a) (0 + (Int.toNat i * 1))) > 7))), (V.bool (decide (((digO a) (0 + (Int.toNat i * 1))) > 7))), (V.bool false), (V.bool (canO a)), (V.bool (!(canO a))), (V.bool true), (V.int .i64 i), (V.ptr 4 (0 + (Int.toNat i * 1))), (V.int .i8 ((digO a) (0 + (Int.toNat i * 1)))), (V.bool (((digO a) (0 + (Int.toNat i * 1))) != 0)), (V.bool (((digO a) (0 + (Int.toNat i * 1))) != 0)), (V.bool (((digO a) (0 + (Int.toNat i * 1))) != 0)), (V.ints .u8 32 q), (V.ints .u8 32 (up 0 16 (fun _ => 0))), (V.ints .u8 32 (mulO q (up 0 16 (fun _ => 0)))), (V.int .i64 i), (V.ptr 4 (0 + (Int.toNat i * 1))), (V.int .i8 ((digO a) (0 + (Int.toNat i * 1)))), (V.bool (decide (((digO a) (0 + (Int.toNat i * 1))) ≥ 0))), t43, t44, t45, t46, t47, t48, t49, (V.ints .u8 32 (mulO q (up 0 16 (fun _ => 0)))), (V.int .i64 i), (V.ptr 4 (0 + (Int.toNat i * 1))), (V.int .i8 ((digO a) (0 + (Int.toNat i * 1)))), (V.int .i8 (subI .i8 0 ((digO a) (0 + (Int.toNat i * 1))))), (V.int .u8 (IntKind.wrap .u8 (subI .i8 0 ((digO a) (0 + (Int.toNat i * 1)))))), (V.ints .u8 32 (up 0 (IntKind.wrap .u8 (subI .i8 0 ((digO a) (0 + (Int.toNat i * 1))))) (fun _ => 0))), (V.ints .u8 32 (addO (mulO q (up 0 16 (fun _ => 0))) (negO (up 0 (IntKind.wrap .u8 (subI .i8 0 ((digO a) (0 + (Int.toNat i * 1))))) (fun _ => 0))))), V.un, V.un, V.un, V.un, V.un, V.un, V.un, V.un, V.un, V.un, V.un, V.un, V.un, V.un, V.un], [(V.tup [V.fn 2, (V.ints .u64 4 ordF)]), (V.tup [V.fn 0, (V.ints .u8 32 oneF)]), (V.tup [V.fn 3, (V.ints .u8 32 twoF)]), (V.ints .u8 32 a), (V.ints .i8 64 (digO a)), (V.ints .u8 32 (addO (mulO q (up 0 16 (fun _ => 0))) (negO (up 0 (IntKind.wrap .u8 (subI .i8 0 ((digO a) (0 + (Int.toNat i * 1))))) (fun _ => 0)))))]⟩))))))))) (gB (decide (0 ≤ i ∧ i < 64)) (gB (Nat.blt (0 + (Int.toNat i * 1)) 64) (mB (decide (((digO a) (0 + (Int.toNat i * 1))) ≥ 0)) (gB (decide (0 ≤ i ∧ i < 64)) (gB (Nat.blt (0 + (Int.toNat i * 1)) 64) (lp (awp Tryd.prog p13 noG 300 (loopOf (body Tryd.f11))) Q m ⟨[(V.ints .u8 32 a), (V.ptr 3 0), (V.bool false), (V.ptr 4 0), (V.bool (canO a)), (V.ptr 5 0), (V.int .i64 (subI .i64 i 1)), (V.tup [(V.ints .i8 64 (digO a)), (V.bool (canO a))]), (V.ints .u8 32 a), (V.tup [(V.ints .i8 64 (digO a)), (V.bool (canO a))]), (V.ints .i8 64 (digO a)), (V.bool (canO a)), (V.int .i64 i), (V.bool (decide (i ≥ 0))), (V.int .i64 i), (V.int .i64 (subI .i64 i 1)), (V.int .i64 i), (V.ptr 4 (0 + (Int.toNat i * 1))), (V.int .i8 ((digO a) (0 + (Int.toNat i * 1)))), (V.bool (decide (((digO a) (0 + (Int.toNat i * 1))) < (-8)))), (V.bool false), (V.int .i64 i), (V.ptr 4 (0 + (Int.toNat i * 1))), (V.int .i8 ((digO a) (0 + (Int.toNat i * 1)))), (V.bool (decide (((digO a) (0 + (Int.toNat i * 1))) > 7))), (V.bool (decide (((digO a) (0 + (Int.toNat i * 1))) > 7))), (V.bool false), (V.bool (canO a)), (V.bool (!(canO a))), (V.bool false), V.un, V.un, V.un, V.un, (V.bool false), (V.bool false), (V.ints .u8 32 q), (V.ints .u8 32 (up 0 16 (fun _ => 0))), (V.ints .u8 32 (mulO q (up 0 16 (fun _ => 0)))), (V.int .i64 i), (V.ptr 4 (0 + (Int.toNat i * 1))), (V.int .i8 ((digO a) (0 + (Int.toNat i * 1)))), (V.bool (decide (((digO a) (0 + (Int.toNat i * 1))) ≥ 0))), (V.ints .u8 32 (mulO q (up 0 16 (fun _ => 0)))), (V.int .i64 i), (V.ptr 4 (0 + (Int.toNat i * 1))), (V.int .i8 ((digO a) (0 + (Int.toNat i * 1)))), (V.int .u8 (IntKind.wrap .u8 ((digO a) (0 + (Int.toNat i * 1))))), (V.ints .u8 32 (up 0 (IntKind.wrap .u8 ((digO a) (0 + (Int.toNat i * 1)))) (fun _ => 0))), (V.ints .u8 32 (addO (mulO q (up 0 16 (fun _ => 0))) (up 0 (IntKind.wrap .u8 ((digO a) (0 + (Int.toNat i * 1)))) (fun _ => 0)))), t50, t51, t52, t53, t54, t55, t56, t57, V.un, V.un, V.un, V.un, V.un, V.un, V.un, V.un, V.un, V.un, V.un, V.un, V.un, V.un, V.un], [(V.tup [V.fn 2, (V.ints .u64 4 ordF)]), (V.tup [V.fn 0, (V.ints .u8 32 oneF)]), (V.tup [V.fn 3, (V.ints .u8 32 twoF)]), (V.ints .u8 32 a), (V.ints .i8 64 (digO a)), (V.ints .u8 32 (addO (mulO q (up 0 16 (fun _ => 0))) (up 0 (IntKind.wrap .u8 ((digO a) (0 + (Int.toNat i * 1)))) (fun _ => 0))))]⟩))) (gB (decide (0 ≤ i ∧ i < 64)) (gB (Nat.blt (0 + (Int.toNat i * 1)) 64) (lp (awp Tryd.prog p13 noG 300 (loopOf (body Tryd.f11))) Q m ⟨[(V.ints .u8 32 a), (V.ptr 3 0), (V.bool false), (V.ptr 4 0), (V.bool (canO a)), (V.ptr 5 0), (V.int .i64 (subI .i64 i 1)), (V.tup [(V.ints .i8 64 (digO a)), (V.bool (canO a))]), (V.ints .u8 32 a), (V.tup [(V.ints .i8 64 (digO a)), (V.bool (canO a))]), (V.ints .i8 64 (digO a)), (V.bool (canO a)), (V.int .i64 i), (V.bool (decide (i ≥ 0))), (V.int .i64 i), (V.int .i64 (subI .i64 i 1)), (V.int .i64 i), (V.ptr 4 (0 + (Int.toNat i * 1))), (V.int .i8 ((digO a) (0 + (Int.toNat i * 1)))), (V.bool (decide (((digO a) (0 + (Int.toNat i * 1))) < (-8)))), (V.bool false), (V.int .i64 i), (V.ptr 4 (0 + (Int.toNat i * 1))), (V.int .i8 ((digO a) (0 + (Int.toNat i * 1)))), (V.bool (decide (((digO a) (0 + (Int.toNat i * 1))) > 7))), (V.bool (decide (((digO a) (0 + (Int.toNat i * 1))) > 7))), (V.bool false), (V.bool (canO a)), (V.bool (!(canO a))), (V.bool false), V.un, V.un, V.un, V.un, (V.bool false), (V.bool false), (V.ints .u8 32 q), (V.ints .u8 32 (up 0 16 (fun _ => 0))), (V.ints .u8 32 (mulO q (up 0 16 (fun _ => 0)))), (V.int .i64 i), (V.ptr 4 (0 + (Int.toNat i * 1))), (V.int .i8 ((digO a) (0 + (Int.toNat i * 1)))), (V.bool (decide (((digO a) (0 + (Int.toNat i * 1))) ≥ 0))), t43, t44, t45, t46, t47, t48, t49, (V.ints .u8 32 (mulO q (up 0 16 (fun _ => 0)))), (V.int .i64 i), (V.ptr 4 (0 + (Int.toNat i * 1))), (V.int .i8 ((digO a) (0 + (Int.toNat i * 1)))), (V.int .i8 (subI .i8 0 ((digO a) (0 + (Int.toNat i * 1))))), (V.int .u8 (IntKind.wrap .u8 (subI .i8 0 ((digO a) (0 + (Int.toNat i * 1)))))), (V.ints .u8 32 (up 0 (IntKind.wrap .u8 (subI .i8 0 ((digO a) (0 + (Int.toNat i * 1))))) (fun _ => 0))), (V.ints .u8 32 (addO (mulO q (up 0 16 (fun _ => 0))) (negO (up 0 (IntKind.wrap .u8 (subI .i8 0 ((digO a) (0 + (Int.toNat i * 1))))) (fun _ => 0))))), V.un, V.un, V.un, V.un, V.un, V.un, V.un, V.un, V.un, V.un, V.un, V.un, V.un, V.un, V.un], [(V.tup [V.fn 2, (V.ints .u64 4 ordF)]), (V.tup [V.fn 0, (V.ints .u8 32 oneF)]), (V.tup [V.fn 3, (V.ints .u8 32 twoF)]), (V.ints .u8 32 a), (V.ints .i8 64 (digO a)), (V.ints .u8 32 (addO (mulO q (up 0 16 (fun _ => 0))) (negO (up 0 (IntKind.wrap .u8 (subI .i8 0 ((digO a) (0 + (Int.toNat i * 1))))) (fun _ => 0)))))]⟩))))))))))))) (Q (.exit 0) ⟨[(V.ints .u8 32 a), (V.ptr 3 0), (V.bool false), (V.ptr 4 0), (V.bool (canO a)), (V.ptr 5 0), (V.int .i64 i), (V.tup [(V.ints .i8 64 (digO a)), (V.bool (canO a))]), (V.ints .u8 32 a), (V.tup [(V.ints .i8 64 (digO a)), (V.bool (canO a))]), (V.ints .i8 64 (digO a)), (V.bool (canO a)), (V.int .i64 i), (V.bool (decide (i ≥ 0))), t14, t15, t16, t17, t18, t19, t20, t21, t22, t23, t24, t25, t26, t27, t28, t29, t30, t31, t32, t33, t34, t35, t36, t37, t38, t39, t40, t41, t42, t43, t44, t45, t46, t47, t48, t49, t50, t51, t52, t53, t54, t55, t56, t57, V.un, V.un, V.un, V.un, V.un, V.un, V.un, V.un, V.un, V.un, V.un, V.un, V.un, V.un, V.un], [(V.tup [V.fn 2, (V.ints .u64 4 ordF)]), (V.tup [V.fn 0, (V.ints .u8 32 oneF)]), (V.tup [V.fn 3, (V.ints .u8 32 twoF)]), (V.ints .u8 32 a), (V.ints .i8 64 (digO a)), (V.ints .u8 32 q)]⟩)) := by kernel_rfl
theorem dgb_xr (a : Nat → Int) (i : Int) (q : Nat → Int) (t12 t13 t14 t15 t16 t17 t18 t19 t20 t21 t22 t23 t24 t25 t26 t27 t28 t29 t30 t31 t32 t33 t34 t35 t36 t37 t38 t39 t40 t41 t42 t43 t44 t45 t46 t47 t48 t49 t50 t51 t52 t53 t54 t55 t56 t57 : V) (R : V) : spineQ Tryd.prog p13 noG 300 (body Tryd.f11) (ends Tryd.prog Tryd.f11 fun v _ => okV R v) .ret ⟨[(V.ints .u8 32 a), (V.ptr 3 0), (V.bool false), (V.ptr 4 0), (V.bool (canO a)), (V.ptr 5 0), (V.int .i64 i), (V.tup [(V.ints .i8 64 (digO a)), (V.bool (canO a))]), (V.ints .u8 32 a), (V.tup [(V.ints .i8 64 (digO a)), (V.bool (canO a))]), (V.ints .i8 64 (digO a)), (V.bool (canO a)), t12, t13, t14, t15, t16, t17, t18, t19, t20, t21, t22, t23, t24, t25, t26, t27, t28, t29, t30, t31, t32, t33, t34, t35, t36, t37, t38, t39, t40, t41, t42, t43, t44, t45, t46, t47, t48, t49, t50, t51, t52, t53, t54, t55, t56, t57, V.un, V.un, V.un, V.un, V.un, V.un, V.un, V.un, V.un, V.un, V.un, V.un, V.un, V.un, V.un], [(V.tup [V.fn 2, (V.ints .u64 4 ordF)]), (V.tup [V.fn 0, (V.ints .u8 32 oneF)]), (V.tup [V.fn 3, (V.ints .u8 32 twoF)]), (V.ints .u8 32 a), (V.ints .i8 64 (digO a)), (V.ints .u8 32 q)]⟩ = (okV R (V.bool false)) := by kernel_rfl
theorem dgb_x (a : Nat → Int) (i : Int) (q : Nat → Int) (t12 t13 t14 t15 t16 t17 t18 t19 t20 t21 t22 t23 t24 t25 t26 t27 t28 t29 t30 t31 t32 t33 t34 t35 t36 t37 t38 t39 t40 t41 t42 t43 t44 t45 t46 t47 t48 t49 t50 t51 t52 t53 t54 t55 t56 t57 : V) (R : V) : spineQ Tryd.prog p13 noG 300 (body Tryd.f11) (ends Tryd.prog Tryd.f11 fun v _ => okV R v) (.exit 0) ⟨[(V.ints .u8 32 a), (V.ptr 3 0), (V.bool false), (V.ptr 4 0), (V.bool (canO a)), (V.ptr 5 0), (V.int .i64 i), (V.tup [(V.ints .i8 64 (digO a)), (V.bool (canO a))]), (V.ints .u8 32 a), (V.tup [(V.ints .i8 64 (digO a)), (V.bool (canO a))]), (V.ints .i8 64 (digO a)), (V.bool (canO a)), t12, t13, t14, t15, t16, t17, t18, t19, t20, t21, t22, t23, t24, t25, t26, t27, t28, t29, t30, t31, t32, t33, t34, t35, t36, t37, t38, t39, t40, t41, t42, t43, t44, t45, t46, t47, t48, t49, t50, t51, t52, t53, t54, t55, t56, t57, V.un, V.un, V.un, V.un, V.un, V.un, V.un, V.un, V.un, V.un, V.un, V.un, V.un, V.un, V.un], [(V.tup [V.fn 2, (V.ints .u64 4 ordF)]), (V.tup [V.fn 0, (V.ints .u8 32 oneF)]), (V.tup [V.fn 3, (V.ints .u8 32 twoF)]), (V.ints .u8 32 a), (V.ints .i8 64 (digO a)), (V.ints .u8 32 q)]⟩ = (mB (!((canO a) == (canO a))) (okV R (V.bool false)) (mB (!(canO a)) (okV R (V.bool true)) (okV R (V.bool (eqN 32 q a))))) := by kernel_rfl
/-- What the law has made of the digits from 63 down: behind k of them. -/
def dgS (d : Nat → Int) : Nat → Int
  | 0 => 0
  | k + 1 => 16 * dgS d k + d (63 - k)
theorem dgS_v (d : Nat → Int) : ∀ k, k ≤ 64 → dgS d k = dv 16 k (fun j => d (64 - k + j))
  | 0, _ => rfl
  | k + 1, hk => by
    rw [dgS, dgS_v d k (by omega), dv]
    rw [show 64 - (k + 1) + 0 = 63 - k by omega]
    rw [show (fun j => d (64 - k + j)) = (fun i => d (64 - (k + 1) + (i + 1))) from funext fun i => by congr 1; omega]
    omega
theorem num16 : num (up 0 16 (fun _ => 0)) = 16 := num_up (by omega) (by omega)
theorem dig_round {d S : Int} {q : Nat → Int} (hq : q = stF (S % LL)) (h0 : -8 ≤ d) (h1 : d ≤ 7) :
    (decide (d ≥ 0) = true → addO (mulO q (up 0 16 (fun _ => 0))) (up 0 (IntKind.wrap .u8 d) (fun _ => 0)) = stF ((16 * S + d) % LL)) ∧
    (decide (d ≥ 0) = false → addO (mulO q (up 0 16 (fun _ => 0))) (negO (up 0 (IntKind.wrap .u8 (subI .i8 0 d)) (fun _ => 0))) = stF ((16 * S + d) % LL)) := by
  have hn : num q = S % LL := by rw [hq]; exact num_mod S
  refine ⟨fun h => ?_, fun h => ?_⟩
  · have h := of_decide_eq_true h
    have hw : IntKind.wrap .u8 d = d := by rw [wrap_u8]; omega
    have hu : num (up 0 d (fun _ => 0)) = d := num_up (by omega) (by omega)
    rw [hw, add_st, num_add, num_mul, hn, num16, hu, ma, ea, Int.mul_comm]
  · have h := of_decide_eq_false h
    have hs : subI .i8 0 d = -d := by unfold subI; rw [IntWalk.i8_in _ (by omega)]; omega
    have hw : IntKind.wrap .u8 (-d) = -d := by rw [wrap_u8]; omega
    have hu : num (up 0 (-d) (fun _ => 0)) = -d := num_up (by omega) (by omega)
    rw [hs, hw, add_st, num_add, num_mul, num_neg, hn, num16, hu, ma, ea, eb, Int.neg_neg, Int.mul_comm]
theorem dgb_l {a : Nat → Int} (ha : By 32 a) : ∀ (k m : Nat) (q : Nat → Int), k ≤ 64 → k + 1 ≤ m → q = stF (dgS (digO a) (64 - k) % LL) → ∀ (t12 t13 t14 t15 t16 t17 t18 t19 t20 t21 t22 t23 t24 t25 t26 t27 t28 t29 t30 t31 t32 t33 t34 t35 t36 t37 t38 t39 t40 t41 t42 t43 t44 t45 t46 t47 t48 t49 t50 t51 t52 t53 t54 t55 t56 t57 : V),
    lp (awp Tryd.prog p13 noG 300 (loopOf (body Tryd.f11))) (spineQ Tryd.prog p13 noG 300 (body Tryd.f11) (ends Tryd.prog Tryd.f11 fun v _ => okV (V.bool true) v)) m ⟨[(V.ints .u8 32 a), (V.ptr 3 0), (V.bool false), (V.ptr 4 0), (V.bool (canO a)), (V.ptr 5 0), (V.int .i64 ((k : Int) - 1)), (V.tup [(V.ints .i8 64 (digO a)), (V.bool (canO a))]), (V.ints .u8 32 a), (V.tup [(V.ints .i8 64 (digO a)), (V.bool (canO a))]), (V.ints .i8 64 (digO a)), (V.bool (canO a)), t12, t13, t14, t15, t16, t17, t18, t19, t20, t21, t22, t23, t24, t25, t26, t27, t28, t29, t30, t31, t32, t33, t34, t35, t36, t37, t38, t39, t40, t41, t42, t43, t44, t45, t46, t47, t48, t49, t50, t51, t52, t53, t54, t55, t56, t57, V.un, V.un, V.un, V.un, V.un, V.un, V.un, V.un, V.un, V.un, V.un, V.un, V.un, V.un, V.un], [(V.tup [V.fn 2, (V.ints .u64 4 ordF)]), (V.tup [V.fn 0, (V.ints .u8 32 oneF)]), (V.tup [V.fn 3, (V.ints .u8 32 twoF)]), (V.ints .u8 32 a), (V.ints .i8 64 (digO a)), (V.ints .u8 32 q)]⟩
  | 0, m, q, _, hm, hq, t12, t13, t14, t15, t16, t17, t18, t19, t20, t21, t22, t23, t24, t25, t26, t27, t28, t29, t30, t31, t32, t33, t34, t35, t36, t37, t38, t39, t40, t41, t42, t43, t44, t45, t46, t47, t48, t49, t50, t51, t52, t53, t54, t55, t56, t57 => by
    obtain ⟨m, rfl⟩ : ∃ z, m = z + 1 := ⟨m - 1, by omega⟩
    rw [dgb_s]
    refine mBt (fun h => absurd (of_decide_eq_true h) (by omega)) (fun _ => ?_)
    rw [dgb_x]
    refine mBt (fun h => by simp at h) (fun _ => mBt (fun _ => okV_refl rfl) (fun h => ?_))
    have h : canO a = true := by simpa using h
    have e : eqN 32 q a = true := by
      refine eqN_mk fun j hj => ?_
      rw [hq, dgS_v _ 64 (Nat.le_refl _), digO_eq]
      simp only [h, cond_true, Nat.sub_self, Nat.zero_add]
      have hs := (dig_sum ha h).1
      rw [show (fun j => dgF a 64 j) = dgF a 64 from rfl, hs]
      rw [can_iff] at h
      rw [Int.emod_eq_of_lt (num_nn a).1 (of_decide_eq_true h)]
      exact st_bytes ha j hj
    rw [e]
    exact okV_refl rfl
  | k + 1, m, q, hk, hm, hq, t12, t13, t14, t15, t16, t17, t18, t19, t20, t21, t22, t23, t24, t25, t26, t27, t28, t29, t30, t31, t32, t33, t34, t35, t36, t37, t38, t39, t40, t41, t42, t43, t44, t45, t46, t47, t48, t49, t50, t51, t52, t53, t54, t55, t56, t57 => by
    obtain ⟨m, rfl⟩ : ∃ z, m = z + 1 := ⟨m - 1, by omega⟩
    have e1 : (((k + 1 : Nat) : Int) - 1) = (k : Int) := by omega
    rw [e1, dgb_s]
    have g1 : decide (0 ≤ (k : Int) ∧ (k : Int) < 64) = true := decide_eq_true (by omega)
    have g2 : Nat.blt (0 + (Int.toNat (k : Int) * 1)) 64 = true := by rw [Int.toNat_natCast]; exact bltT.2 (by omega)
    have hnx : subI .i64 (k : Int) 1 = (k : Int) - 1 := sub1_nat k (by omega)
    have hix : (0 + (Int.toNat (k : Int) * 1)) = k := by rw [Int.toNat_natCast]; omega
    have hd : -8 ≤ digO a k ∧ digO a k ≤ 7 := by
      rw [digO_eq]
      dsimp only
      cases h : canO a with
      | true => exact (dig_sum ha h).2 k (by omega)
      | false => exact ⟨by show (-8 : Int) ≤ 0; omega, by show (0 : Int) ≤ 7; omega⟩
    have hz : canO a = false → digO a k = 0 := by intro h; rw [digO_eq]; simp only [h, cond_false]
    have hr := dig_round hq hd.1 hd.2
    have hS : 16 * dgS (digO a) (64 - (k + 1)) + digO a k = dgS (digO a) (64 - k) := by
      rw [show 64 - k = 64 - (k + 1) + 1 by omega, dgS, show 63 - (64 - (k + 1)) = k by omega]
    rw [hS] at hr
    rw [hix] at g2
    rw [hix]
    refine mBt (fun _ => ?_) (fun h => absurd (of_decide_eq_false h) (by omega))
    refine gm g1 (gm g2 (mBt (fun h => absurd (of_decide_eq_true h) (by omega)) (fun _ => ?_)))
    refine gm g1 (gm g2 (mBt (fun h => absurd (of_decide_eq_true h) (by omega)) (fun _ => ?_)))
    refine mBt (fun hc => ?_) (fun hc => ?_)
    · have hc : canO a = false := by simpa using hc
      refine gm g1 (gm g2 (mBt (fun h => by rw [hz hc] at h; simp at h) (fun _ => ?_)))
      refine gm g1 (gm g2 (mBt (fun h => gm g1 (gm g2 ?_)) (fun h => gm g1 (gm g2 ?_))))
      · rw [hnx]
        exact dgb_l ha k m _ (by omega) (by omega) (hr.1 h) _ _ _ _ _ _ _ _ _ _ _ _ _ _ _ _ _ _ _ _ _ _ _ _ _ _ _ _ _ _ _ _ _ _ _ _ _ _ _ _ _ _ _ _ _ _
      · rw [hnx]
        exact dgb_l ha k m _ (by omega) (by omega) (hr.2 h) _ _ _ _ _ _ _ _ _ _ _ _ _ _ _ _ _ _ _ _ _ _ _ _ _ _ _ _ _ _ _ _ _ _ _ _ _ _ _ _ _ _ _ _ _ _
    · refine gm g1 (gm g2 (mBt (fun h => gm g1 (gm g2 ?_)) (fun h => gm g1 (gm g2 ?_))))
      · rw [hnx]
        exact dgb_l ha k m _ (by omega) (by omega) (hr.1 h) _ _ _ _ _ _ _ _ _ _ _ _ _ _ _ _ _ _ _ _ _ _ _ _ _ _ _ _ _ _ _ _ _ _ _ _ _ _ _ _ _ _ _ _ _ _
      · rw [hnx]
        exact dgb_l ha k m _ (by omega) (by omega) (hr.2 h) _ _ _ _ _ _ _ _ _ _ _ _ _ _ _ _ _ _ _ _ _ _ _ _ _ _ _ _ _ _ _ _ _ _ _ _ _ _ _ _ _ _ _ _ _ _
theorem lawDigitsBack_a {a : Nat → Int} (ha : By 32 a) : awp Tryd.prog p13 noG 300 (body Tryd.f11) (ends Tryd.prog Tryd.f11 fun v _ => okV (V.bool true) v) ⟨[V.ints .u8 32 a] ++ List.replicate 72 V.un, [(V.tup [V.fn 2, (V.ints .u64 4 ordF)]), (V.tup [V.fn 0, (V.ints .u8 32 oneF)]), (V.tup [V.fn 3, (V.ints .u8 32 twoF)])]⟩ := by
  rw [dgb_h]
  have := dgb_l ha 64 300 (fun _ => 0) (Nat.le_refl _) (by omega) (by rw [Nat.sub_self]; exact st_zero.symm) V.un V.un V.un V.un V.un V.un V.un V.un V.un V.un V.un V.un V.un V.un V.un V.un V.un V.un V.un V.un V.un V.un V.un V.un V.un V.un V.un V.un V.un V.un V.un V.un V.un V.un V.un V.un V.un V.un V.un V.un V.un V.un V.un V.un V.un V.un
  rw [show (((64 : Nat) : Int) - 1) = 63 by decide] at this
  exact this
end Go.Proofs.YtnoehjibponofaaDoor

/-
  The document's lists as numbers: sums, differences, doubles, comparison, bits. Plain. Conditions: none.
-/
namespace Go.Proofs.YtnoehjibponofaaDoor
open Go.Ev Go.Num
def atN (x : Nat) (f : Nat → Int) : Nat → Int := fun j => atF x f (j : Int)
theorem atN_lt {x : Nat} {f : Nat → Int} {j : Nat} (h : j < x) : atN x f j = f j := by
  unfold atN atF
  rw [decide_eq_true (by omega), cond_true, Int.toNat_natCast, Nat.mul_one, Nat.zero_add]
theorem atN_ge {x : Nat} {f : Nat → Int} {j : Nat} (h : x ≤ j) : atN x f j = 0 := by
  unfold atN atF
  rw [decide_eq_false (by omega), cond_false]
theorem by_at {x n : Nat} {f : Nat → Int} (h : By x f) : By n (atN x f) := by
  intro j _
  by_cases hj : j < x
  · rw [atN_lt hj]; exact h j hj
  · rw [atN_ge (by omega)]; omega
theorem dv_at {x : Nat} {f : Nat → Int} : ∀ {n : Nat}, x ≤ n → dv 256 n (atN x f) = dv 256 x f := by
  intro n hn
  obtain ⟨d, rfl⟩ : ∃ d, n = x + d := ⟨n - x, by omega⟩
  rw [dv_split, dv_congr (b := f) fun i hi => atN_lt hi, dv_congr (b := fun _ => 0) (n := d) fun i _ => atN_ge (by omega), dv_zero]
  simp
theorem carry_eq (P X : Int) : P * (X % 256) + 256 * P * (X / 256) = P * X := by
  have h := Int.emod_add_mul_ediv X 256
  have : P * (X % 256 + 256 * (X / 256)) = P * X := by rw [h]
  rw [← this, Int.mul_add, Int.mul_comm 256 P, Int.mul_assoc]
/-! ### Less -/
theorem lessD_lt (x : Nat) (f : Nat → Int) (y : Nat) (g : Nat → Int) : ∀ k, lessD x f y g k = ltB (atN x f) (atN y g) k
  | 0 => rfl
  | k + 1 => by rw [lessD, ltB, lessD_lt x f y g k]; rfl
theorem lessD_v {x y : Nat} {f g : Nat → Int} (hf : By x f) (hg : By y g) : lessD x f y g (max x y) = decide (dv 256 x f < dv 256 y g) := by
  rw [lessD_lt, ltB_spec (B := 256) (by omega) (fun i hi => by_at hf i hi) (fun i hi => by_at hg i hi), dv_at (by omega), dv_at (by omega)]
/-! ### minus -/
theorem sub64 {a b : Int} (h : -1000000 ≤ a - b) (h2 : a - b ≤ 1000000) : subI .i64 a b = a - b := by unfold subI; rw [wrap_i64 _ (by omega)]
theorem add64 {a b : Int} (h : -1000000 ≤ a + b) (h2 : a + b ≤ 1000000) : addI .i64 a b = a + b := by unfold addI; rw [wrap_i64 _ (by omega)]
theorem mns_v {x y n : Nat} {f g : Nat → Int} (hf : By n f) (hg : By y g) : ∀ k, k ≤ n → (mnsB f y g k = 0 ∨ mnsB f y g k = 1) ∧ By k (mnsV f y g) ∧ dv 256 k (mnsV f y g) = dv 256 k f - dv 256 k (atN y g) + pw 256 k * mnsB f y g k
  | 0, _ => ⟨.inl rfl, fun j hj => by omega, by simp [dv, mnsB, pw]⟩
  | k + 1, hk => by
    obtain ⟨h1, h2, h3⟩ := mns_v (x := x) hf hg k (by omega)
    have a := hf k (by omega)
    have b := by_at (n := n) hg k (by omega)
    have e : subI .i64 (subI .i64 (f k) (atF y g (k : Int))) (mnsB f y g k) = f k - atN y g k - mnsB f y g k := by
      have : atF y g (k : Int) = atN y g k := rfl
      rw [this, sub64 (a := f k) (by omega) (by omega), sub64 (by omega) (by omega)]
    have hv : mnsV f y g k = cond (decide (f k - atN y g k - mnsB f y g k < 0)) (f k - atN y g k - mnsB f y g k + 256) (f k - atN y g k - mnsB f y g k) := by
      unfold mnsV
      rw [e]
      cases hd : decide (f k - atN y g k - mnsB f y g k < 0) with
      | true => simp only [cond_true]; exact add64 (by omega) (by omega)
      | false => rfl
    have hb : mnsB f y g (k + 1) = cond (decide (f k - atN y g k - mnsB f y g k < 0)) 1 0 := by rw [mnsB, e]
    rw [dv_top, dv_top, dv_top, h3, hb, hv, pw]
    by_cases hd : f k - atN y g k - mnsB f y g k < 0
    · rw [decide_eq_true hd] at hv ⊢
      refine ⟨.inr rfl, fun j hj => ?_, ?_⟩
      · by_cases hjk : j = k
        · subst hjk; rw [hv, cond_true]; omega
        · exact h2 j (by omega)
      · simp only [cond_true]
        rw [Int.mul_add, Int.mul_sub, Int.mul_sub]; omega
    · rw [decide_eq_false hd] at hv ⊢
      refine ⟨.inl rfl, fun j hj => ?_, ?_⟩
      · by_cases hjk : j = k
        · subst hjk; rw [hv, cond_false]; omega
        · exact h2 j (by omega)
      · simp only [cond_false]
        rw [Int.mul_sub, Int.mul_sub]; omega
theorem mns_num {x y : Nat} {f g : Nat → Int} (hf : By x f) (hg : By y g) (hxy : y ≤ x) (h : dv 256 y g ≤ dv 256 x f) : By x (mnsV f y g) ∧ dv 256 x (mnsV f y g) = dv 256 x f - dv 256 y g := by
  obtain ⟨h1, h2, h3⟩ := mns_v (x := x) hf hg x (Nat.le_refl _)
  rw [dv_at hxy] at h3
  have hb := dv_bound (B := 256) (by omega) h2
  have hf' := dv_bound (B := 256) (by omega) hf
  have hg' := dv_bound (B := 256) (by omega) hg
  rcases h1 with h1 | h1
  · rw [h1, Int.mul_zero, Int.add_zero] at h3; exact ⟨h2, h3⟩
  · rw [h1, Int.mul_one] at h3; omega
/-! ### Sum -/
theorem sum_v {x y : Nat} {f g : Nat → Int} (hf : By x f) (hg : By y g) : ∀ k, k ≤ max x y → (0 ≤ sumC x f y g k ∧ sumC x f y g k ≤ 1) ∧ By k (sumV x f y g) ∧ dv 256 k (sumV x f y g) + pw 256 k * sumC x f y g k = dv 256 k (atN x f) + dv 256 k (atN y g)
  | 0, _ => ⟨⟨by simp [sumC], by simp [sumC]⟩, fun j hj => by omega, by simp [dv, sumC]⟩
  | k + 1, hk => by
    obtain ⟨h1, h2, h3⟩ := sum_v hf hg k (by omega)
    have a := by_at (n := max x y) hf k (by omega)
    have b := by_at (n := max x y) hg k (by omega)
    have e : addI .i64 (addI .i64 (atF x f (k : Int)) (atF y g (k : Int))) (sumC x f y g k) = atN x f k + atN y g k + sumC x f y g k := by
      have e1 : atF x f (k : Int) = atN x f k := rfl
      have e2 : atF y g (k : Int) = atN y g k := rfl
      rw [e1, e2, add64 (a := atN x f k) (by omega) (by omega), add64 (by omega) (by omega)]
    have hv : sumV x f y g k = (atN x f k + atN y g k + sumC x f y g k) % 256 := by
      unfold sumV
      rw [bltT.2 (by omega), cond_true, e, rem256 (by omega)]
    have hc : sumC x f y g (k + 1) = (atN x f k + atN y g k + sumC x f y g k) / 256 := by rw [sumC, e, quo256 (by omega) (by omega)]
    rw [dv_top, dv_top, dv_top, hv, hc, pw]
    refine ⟨⟨by omega, by omega⟩, fun j hj => ?_, ?_⟩
    · by_cases hjk : j = k
      · subst hjk; rw [hv]; omega
      · exact h2 j (by omega)
    · have e2 : pw 256 k * ((atN x f k + atN y g k + sumC x f y g k) % 256) + 256 * pw 256 k * ((atN x f k + atN y g k + sumC x f y g k) / 256) = pw 256 k * (atN x f k + atN y g k + sumC x f y g k) := by
        exact carry_eq _ _
      rw [Int.mul_add, Int.mul_add] at e2
      omega
theorem sum_num {x y : Nat} {f g : Nat → Int} (hf : By x f) (hg : By y g) : By (max x y + 1) (sumV x f y g) ∧ dv 256 (max x y + 1) (sumV x f y g) = dv 256 x f + dv 256 y g := by
  obtain ⟨h1, h2, h3⟩ := sum_v hf hg (max x y) (Nat.le_refl _)
  rw [dv_at (by omega), dv_at (by omega)] at h3
  have hv : sumV x f y g (max x y) = sumC x f y g (max x y) := by unfold sumV; rw [ff bltT (by omega), cond_false]
  refine ⟨fun j hj => ?_, by rw [dv_top, hv, h3]⟩
  by_cases hjk : j = max x y
  · rw [hjk, hv]; omega
  · exact h2 j (by omega)
/-! ### Doubles -/
theorem dbl_v {q : Int} {h : Nat → Int} {n : Nat} (hq : 0 ≤ q ∧ q ≤ 1) (hh : By n h) : ∀ k, k ≤ n → (0 ≤ dblC q h k ∧ dblC q h k ≤ 1) ∧ By k (dblF q h k) ∧ dv 256 k (dblF q h k) + pw 256 k * dblC q h k = 2 * dv 256 k h + q
  | 0, _ => ⟨hq, fun j hj => by omega, by simp [dv, dblC, pw]⟩
  | k + 1, hk => by
    obtain ⟨h1, h2, h3⟩ := dbl_v hq hh k (by omega)
    have a := hh k (by omega)
    have e : addI .i64 (mulI .i64 2 (h k)) (dblC q h k) = 2 * h k + dblC q h k := by
      have : mulI .i64 2 (h k) = 2 * h k := by unfold mulI; rw [wrap_i64 _ (by omega)]
      rw [this, add64 (by omega) (by omega)]
    simp only [dblC, dblF, e]
    rw [rem256 (by omega), quo256 (by omega) (by omega)]
    refine ⟨⟨by omega, by omega⟩, fun j hj => ?_, ?_⟩
    · rw [up_at]
      split
      · omega
      · exact h2 j (by omega)
    · rw [dv_top, dv_top, up_at, if_pos rfl, dv_congr (b := dblF q h k) fun i hi => by rw [up_at, if_neg (by omega)], pw]
      have e2 : pw 256 k * ((2 * h k + dblC q h k) % 256) + 256 * pw 256 k * ((2 * h k + dblC q h k) / 256) = pw 256 k * (2 * h k + dblC q h k) := by
        exact carry_eq _ _
      rw [Int.mul_add] at e2
      have e3 : pw 256 k * (2 * h k) = 2 * (pw 256 k * h k) := by rw [← Int.mul_assoc, Int.mul_comm (pw 256 k) 2, Int.mul_assoc]
      omega
/-! ### Bits -/
theorem hvI_v {d : Int} (h0 : 0 ≤ d) (h1 : d < 256) : ∀ k, hvI d k = d / 2 ^ k
  | 0 => by simp [hvI]
  | k + 1 => by
    have hp : (0 : Int) < 2 ^ k := Int.pow_pos (by omega)
    have hn : 0 ≤ d / 2 ^ k := Int.ediv_nonneg h0 (by omega)
    have hl : d / 2 ^ k ≤ d := Int.ediv_le_self _ h0
    rw [hvI, hvI_v h0 h1 k, Int.pow_succ, ← Int.ediv_ediv_of_nonneg (by omega)]
    unfold quoI
    rw [Int.tdiv_eq_ediv_of_nonneg hn, wrap_i64 _ (by omega)]
theorem bit_v {x : Nat} {f : Nat → Int} (hf : By x f) {i : Nat} (hi : i < 8 * x) (h : x < 1000) : bitV x f (i : Int) = dv 256 x f / 2 ^ i % 2 := by
  unfold bitV
  rw [show quoI .i64 (i : Int) 8 = ((i / 8 : Nat) : Int) from quo_nat i 8 (by omega), show remI (i : Int) 8 = ((i % 8 : Nat) : Int) from rem_nat i 8]
  have e : atF x f ((i / 8 : Nat) : Int) = f (i / 8) := atN_lt (by omega)
  have hd := hf (i / 8) (by omega)
  rw [e, Int.toNat_natCast, hvI_v hd.1 hd.2]
  have := digit_bit (k := 8) (a := f) (n := x) (m := i / 8) (r := i % 8) (fun j hj => hf j hj) (by omega) (by omega)
  rw [Nat.div_add_mod] at this
  rw [show (256 : Int) = 2 ^ 8 by decide, this]
  unfold remI
  have hn : 0 ≤ f (i / 8) / 2 ^ (i % 8) := Int.ediv_nonneg hd.1 (Int.le_of_lt (Int.pow_pos (by omega)))
  rw [Int.tmod_eq_emod_of_nonneg hn]
theorem ordN_by : By 32 ordN := by
  intro j hj
  have : j = 0 ∨ j = 1 ∨ j = 2 ∨ j = 3 ∨ j = 4 ∨ j = 5 ∨ j = 6 ∨ j = 7 ∨ j = 8 ∨ j = 9 ∨ j = 10 ∨ j = 11 ∨ j = 12 ∨ j = 13 ∨ j = 14 ∨ j = 15 ∨ j = 16 ∨ j = 17 ∨ j = 18 ∨ j = 19 ∨ j = 20 ∨ j = 21 ∨ j = 22 ∨ j = 23 ∨ j = 24 ∨ j = 25 ∨ j = 26 ∨ j = 27 ∨ j = 28 ∨ j = 29 ∨ j = 30 ∨ j = 31 := by omega
  rcases this with rfl | rfl | rfl | rfl | rfl | rfl | rfl | rfl | rfl | rfl | rfl | rfl | rfl | rfl | rfl | rfl | rfl | rfl | rfl | rfl | rfl | rfl | rfl | rfl | rfl | rfl | rfl | rfl | rfl | rfl | rfl | rfl <;> exact ⟨by decide, by decide⟩
theorem ordN_v : dv 256 32 ordN = LL := by decide
/-- A round of Mod: from v to 2 v + q, less L where it can be. -/
theorem mod_round {q v : Int} {h : Nat → Int} (hq : 0 ≤ q ∧ q ≤ 1) (hh : By 33 h) (hv : dv 256 33 h = v) (hl : v < LL) :
    By 33 (dblF q h 33) ∧ dv 256 33 (dblF q h 33) = 2 * v + q ∧
    ((!(lessD 33 (dblF q h 33) 32 ordN (max 33 32))) = true → ∀ u, By 33 (apx 33 (mnsV (dblF q h 33) 32 ordN) u) ∧ dv 256 33 (apx 33 (mnsV (dblF q h 33) 32 ordN) u) = (2 * v + q) % LL) ∧
    ((!(lessD 33 (dblF q h 33) 32 ordN (max 33 32))) = false → (2 * v + q) % LL = 2 * v + q) := by
  obtain ⟨c, b, e⟩ := dbl_v hq hh 33 (Nat.le_refl _)
  have hb := dv_bound (B := 256) (by omega) b
  have h0 := (dv_bound (B := 256) (by omega) hh).1
  have hp : pw 256 33 = 29642774844752946028434172162224104410437116074403984394101141506025761187823616 := by decide
  have hc : dblC q h 33 = 0 := by
    rw [hp] at e hb
    unfold LL at hl
    omega
  rw [hc, Int.mul_zero, Int.add_zero, hv] at e
  rw [lessD_v b ordN_by, e, ordN_v]
  refine ⟨b, rfl, fun hd u => ?_, fun hd => ?_⟩
  · have hd : ¬ (2 * v + q < LL) := by simpa using hd
    obtain ⟨m1, m2⟩ := mns_num (x := 33) (y := 32) b ordN_by (by omega) (by rw [e, ordN_v]; omega)
    rw [e, ordN_v] at m2
    have ea : ∀ j, j < 33 → apx 33 (mnsV (dblF q h 33) 32 ordN) u j = mnsV (dblF q h 33) 32 ordN j := fun j hj => by rw [apx_at, if_pos hj]
    refine ⟨fun j hj => by rw [ea j hj]; exact m1 j hj, ?_⟩
    rw [dv_congr ea, m2]
    have : (2 * v + q) % LL = (2 * v + q - LL) % LL := (Int.sub_emod_right _ _).symm
    rw [this, Int.emod_eq_of_lt (by omega) (by omega)]
  · have hd : 2 * v + q < LL := by simpa using hd
    exact Int.emod_eq_of_lt (by omega) hd
theorem mod_next (X : Int) (i : Nat) : (2 * (X / 2 ^ (i + 1) % LL) + X / 2 ^ i % 2) % LL = X / 2 ^ i % LL := by
  have e : X / 2 ^ i = 2 * (X / 2 ^ (i + 1)) + X / 2 ^ i % 2 := by
    rw [Int.pow_succ, ← Int.ediv_ediv_of_nonneg (Int.le_of_lt (Int.pow_pos (by omega)))]; omega
  have e2 : (2 * (X / 2 ^ (i + 1) % LL) + X / 2 ^ i % 2) % LL = (2 * (X / 2 ^ (i + 1)) + X / 2 ^ i % 2) % LL := by
    rw [← ea, mb, ea]
  rw [e2, ← e]
end Go.Proofs.YtnoehjibponofaaDoor

/-
  The document's Mod and Tell: contracts. Conditions: none.
-/
namespace Go.Proofs.YtnoehjibponofaaDoor
open Go.Ev Go.Num
def byB : Nat → (Nat → Int) → Bool
  | 0, _ => true
  | n + 1, f => byB n f && decide (0 ≤ f n ∧ f n < 256)
theorem byB_at {f : Nat → Int} : ∀ {n : Nat}, byB n f = true → By n f
  | 0, _ => fun j hj => by omega
  | n + 1, h => by
    simp only [byB, Bool.and_eq_true, decide_eq_true_eq] at h
    intro j hj
    by_cases e : j = n
    · subst e; exact h.2
    · exact byB_at h.1 j (by omega)
theorem byB_mk {f : Nat → Int} : ∀ {n : Nat}, By n f → byB n f = true
  | 0, _ => rfl
  | n + 1, h => by
    simp only [byB, Bool.and_eq_true, decide_eq_true_eq]
    exact ⟨byB_mk fun j hj => h j (by omega), h n (by omega)⟩
noncomputable def byO : Nat → (Nat → Int) → Bool := Classical.choose (hide_ex byB)
theorem byO_eq : byO = byB := Classical.choose_spec (hide_ex byB)
theorem byO_at {n : Nat} {f : Nat → Int} (h : byO n f = true) : By n f := by rw [byO_eq] at h; exact byB_at h
theorem byO_mk {n : Nat} {f : Nat → Int} (h : By n f) : byO n f = true := by rw [byO_eq]; exact byB_mk h
noncomputable def modO : Nat → (Nat → Int) → Nat → Int := Classical.choose (hide_ex fun x f => stF (dv 256 x f % LL))
theorem modO_eq : modO = fun x f => stF (dv 256 x f % LL) := Classical.choose_spec (hide_ex fun x f => stF (dv 256 x f % LL))
noncomputable def modD (x : Nat) (xf : Nat → Int) : Made := ⟨.i64, 33, modO x xf, fun id cap => .sl id 0 33 cap⟩
theorem mod_has {x : Nat} {xf h : Nat → Int} (hh : By 33 h) (hv : dv 256 33 h = dv 256 x xf % LL) : ∀ j, j < 33 → h j = modO x xf j := by
  have hm := mod_nn (dv 256 x xf)
  rw [modO_eq]
  refine dv_inj (B := 256) (by omega) hh (fun i _ => by_stF _ 33 i (by omega)) ?_
  rw [hv]
  have := dv_digits (B := 256) (by omega) (n := 33) (N := dv 256 x xf % LL)
  have h2 : dv 256 x xf % LL % 256 ^ 33 = dv 256 x xf % LL := Int.emod_eq_of_lt hm.1 (by have := hm.2; unfold LL at *; omega)
  rw [h2] at this
  exact this.symm
theorem mod_l (xN x xc : Nat) (xf : Nat → Int) (hx : x ≤ xN) (hb : By x xf) (h9 : x ≤ 74) : ∀ (k m e : Nat) (hh : Nat → Int), k ≤ 8 * x → k + 1 ≤ m → By 33 hh → dv 256 33 hh = dv 256 x xf / 2 ^ k % LL → ∀ (t6 t7 t8 t10 t15 t16 t17 t18 t19 t20 t21 t22 t23 t24 t25 t26 t27 t28 t29 t30 t31 t32 t33 t34 t35 t36 t37 t38 t39 t40 t41 t42 t43 t44 t45 t46 : V),
    (lpW 1 (awp Tryd.prog o64 GM 600 (loopOf (body Tryd.f42)))) ((spineW Tryd.prog o64 GM 1 600 (body Tryd.f42) (ends Tryd.prog Tryd.f42 fun v m => madeK (modD x xf) v m))) m ⟨[(V.sl 0 0 x xc), V.un, V.snil, (V.sl 1 0 32 32), (V.sl 2 0 33 (e + 33)), (V.int .i64 ((k : Int) - 1)), t6, t7, t8, (V.sl 1 0 32 32), t10, (V.sl 0 0 x xc), (V.int .i64 ((x : Nat) : Int)), (V.int .i64 (mulI .i64 8 ((x : Nat) : Int))), (V.int .i64 (subI .i64 (mulI .i64 8 ((x : Nat) : Int)) 1)), t15, t16, t17, t18, t19, t20, t21, t22, t23, t24, t25, t26, t27, t28, t29, t30, t31, t32, t33, t34, t35, t36, t37, t38, t39, t40, t41, t42, t43, t44, t45, t46, V.un], [(V.tup [(V.ints .i64 xN xf)]), (V.ints .i64 32 ordN), (V.ints .i64 (e + 33) hh)]⟩
  | 0, m, e, hh, _, hm, hB, hv, t6, t7, t8, t10, t15, t16, t17, t18, t19, t20, t21, t22, t23, t24, t25, t26, t27, t28, t29, t30, t31, t32, t33, t34, t35, t36, t37, t38, t39, t40, t41, t42, t43, t44, t45, t46 => by
    obtain ⟨m, rfl⟩ : ∃ z, m = z + 1 := ⟨m - 1, by omega⟩
    refine mod_b _ _ _ _ _ _ _ _ _ _ _ _ _ _ _ _ _ _ _ _ _ _ _ _ _ _ _ _ _ _ _ _ _ _ _ _ _ _ _ _ _ _ _ _ _ ?_
    refine mBt (fun h => absurd (of_decide_eq_true h) (by omega)) (fun _ => ?_)
    rw [mod_bx]
    refine ⟨2, e + 33, hh, fun μ => rfl, rfl, by show 33 ≤ e + 33; omega, mod_has hB ?_⟩
    rw [hv, Int.pow_zero, Int.ediv_one]
  | k + 1, m, e, hh, hk, hm, hB, hv, t6, t7, t8, t10, t15, t16, t17, t18, t19, t20, t21, t22, t23, t24, t25, t26, t27, t28, t29, t30, t31, t32, t33, t34, t35, t36, t37, t38, t39, t40, t41, t42, t43, t44, t45, t46 => by
    obtain ⟨m, rfl⟩ : ∃ z, m = z + 1 := ⟨m - 1, by omega⟩
    refine mod_b _ _ _ _ _ _ _ _ _ _ _ _ _ _ _ _ _ _ _ _ _ _ _ _ _ _ _ _ _ _ _ _ _ _ _ _ _ _ _ _ _ _ _ _ _ ?_
    have e1 : (((k + 1 : Nat) : Int) - 1) = (k : Int) := by omega
    have hnx : subI .i64 (k : Int) 1 = (k : Int) - 1 := sub1_nat k (by omega)
    have hq := bit_v (i := k) hb (by omega) (by omega)
    rw [e1, hnx, hq]
    have hm2 := mod_nn (dv 256 x xf / 2 ^ (k + 1))
    obtain ⟨r1, r2, r3, r4⟩ := mod_round (q := dv 256 x xf / 2 ^ k % 2) (by omega) hB hv hm2.2
    rw [mod_next] at r3 r4
    refine mBt (fun _ => gm ?_ (mBt (fun hd e1 ff2 u6 u7 u8 u10 u15 u16 u17 u18 u19 u20 u21 u22 u23 u24 u25 u26 u27 u28 u29 u30 u31 u32 u33 u34 u35 u36 u37 u38 u39 u40 u41 u42 u43 u44 u45 u46 => ?_) (fun hd u6 u7 u8 u10 u15 u16 u17 u18 u19 u20 u21 u22 u23 u24 u25 u26 u27 u28 u29 u30 u31 u32 u33 u34 u35 u36 u37 u38 u39 u40 u41 u42 u43 u44 u45 u46 => ?_))) (fun h => absurd (of_decide_eq_false h) (by omega))
    · rw [bleT.2 (show x ≤ xN - 0 by omega), decide_eq_true (show (0 : Int) ≤ (k : Int) by omega), decide_eq_true (show (k : Int) < 2147483648 by omega)]; rfl
    · obtain ⟨s1, s2⟩ := r3 hd ff2
      exact mod_l xN x xc xf hx hb h9 k m e1 _ (by omega) (by omega) s1 s2 _ _ _ _ _ _ _ _ _ _ _ _ _ _ _ _ _ _ _ _ _ _ _ _ _ _ _ _ _ _ _ _ _ _ _ _
    · exact mod_l xN x xc xf hx hb h9 k m e _ (by omega) (by omega) r1 (by rw [r2, ← r4 hd]) _ _ _ _ _ _ _ _ _ _ _ _ _ _ _ _ _ _ _ _ _ _ _ _ _ _ _ _ _ _ _ _ _ _ _ _
theorem mod_all {xN x xc : Nat} {xf : Nat → Int} (h0 : 1 ≤ x) (hx : x ≤ xN) (hb : byO x xf = true) (h9 : x ≤ 74) : awq Tryd.prog o64 GM 1 600 (body Tryd.f42) (ends Tryd.prog Tryd.f42 fun v m => madeK (modD x xf) v m) ⟨[(V.sl 0 0 x xc)] ++ List.replicate 47 V.un, [(V.tup [(V.ints .i64 xN xf)])]⟩ := by
  rw [mod_h]
  have hb := byO_at hb
  have hbd := dv_bound (B := 256) (by omega) hb
  have e1 : subI .i64 (mulI .i64 8 ((x : Nat) : Int)) 1 = ((8 * x : Nat) : Int) - 1 := by
    have : mulI .i64 8 (x : Int) = ((8 * x : Nat) : Int) := by unfold mulI; rw [wrap_i64 _ (by omega)]; omega
    rw [this, sub1_nat _ (by omega)]
  have hv : dv 256 33 (fun _ => 0) = dv 256 x xf / 2 ^ (8 * x) % LL := by
    rw [pw_eq] at hbd
    rw [dv_zero, Int.ediv_eq_zero_of_lt hbd.1 (by rw [Int.pow_mul]; exact hbd.2)]
    rfl
  have h := mod_l xN x xc xf hx hb h9 (8 * x) 600 0 (fun _ => 0) (Nat.le_refl _) (by omega) (by_zero 33) hv V.un V.un V.un (V.sl 2 0 33 33) V.un V.un V.un V.un V.un V.un V.un V.un V.un V.un V.un V.un V.un V.un V.un V.un V.un V.un V.un V.un V.un V.un V.un V.un V.un V.un V.un V.un V.un V.un V.un V.un
  rw [← e1] at h
  exact h
noncomputable def g42 : List V → List V → Option (Bool × Made) := fun vs m => match views [] vs m with
  | some ([.sl 0 0 x xc], [.tup [.ints .i64 xN xf]]) => some (Nat.ble 1 x && Nat.ble x xN && Nat.ble x 74 && byO x xf, modD x xf)
  | _ => none
noncomputable def exG42 (G : GOrc) : GOrc := mkG 42 g42 G
theorem G42_ok {G : GOrc} (hG : GOrcOK Tryd.prog G) : GOrcOK Tryd.prog (exG42 G) := by
  refine mkG_ok hG fun vs m d h K hK => ?_
  unfold g42 at h
  split at h
  · rename_i x xc xN xf hv
    simp only [Option.some.injEq, Prod.mk.injEq, Bool.and_eq_true] at h
    obtain ⟨⟨⟨⟨h1, h2⟩, h4⟩, h3⟩, rfl⟩ := h
    exact makes_awq (fn := Tryd.f42) (N := 600) (n := 47) hM o64_ok GM_ok Tryd.func42 (by kernel_rfl) (by kernel_rfl) hv (fun μ μ' i i' cap hi => by simp [modD, V.den, hi]) (fun ρ i cap => by simp [modD, V.ren]) (mod_all (bleT.1 h1) (bleT.1 h2) h3 (bleT.1 h4)) (by kernel_rfl) (by kernel_rfl) hK
  · cases h
def tlF (x : Nat) (xf : Nat → Int) : Nat → (Nat → Int)
  | 0 => fun _ => 0
  | k + 1 => up k (IntKind.wrap .u8 (atF x xf (k : Int))) (tlF x xf k)
theorem tell_t (xN x xc : Nat) (xf : Nat → Int) (r : V) : awp Tryd.prog o64 noG 300 (body Tryd.f41) (ends Tryd.prog Tryd.f41 fun v _ => okV r v) ⟨[V.sl 0 0 x xc] ++ List.replicate 15 V.un, [V.tup [V.ints .i64 xN xf]]⟩ = (gB (Nat.ble x (xN - 0) && decide ((0 : Int) ≤ 0)) (gB (Nat.ble x (xN - 0) && decide ((0 : Int) ≤ 1)) (gB (Nat.ble x (xN - 0) && decide ((0 : Int) ≤ 2)) (gB (Nat.ble x (xN - 0) && decide ((0 : Int) ≤ 3)) (gB (Nat.ble x (xN - 0) && decide ((0 : Int) ≤ 4)) (gB (Nat.ble x (xN - 0) && decide ((0 : Int) ≤ 5)) (gB (Nat.ble x (xN - 0) && decide ((0 : Int) ≤ 6)) (gB (Nat.ble x (xN - 0) && decide ((0 : Int) ≤ 7)) (gB (Nat.ble x (xN - 0) && decide ((0 : Int) ≤ 8)) (gB (Nat.ble x (xN - 0) && decide ((0 : Int) ≤ 9)) (gB (Nat.ble x (xN - 0) && decide ((0 : Int) ≤ 10)) (gB (Nat.ble x (xN - 0) && decide ((0 : Int) ≤ 11)) (gB (Nat.ble x (xN - 0) && decide ((0 : Int) ≤ 12)) (gB (Nat.ble x (xN - 0) && decide ((0 : Int) ≤ 13)) (gB (Nat.ble x (xN - 0) && decide ((0 : Int) ≤ 14)) (gB (Nat.ble x (xN - 0) && decide ((0 : Int) ≤ 15)) (gB (Nat.ble x (xN - 0) && decide ((0 : Int) ≤ 16)) (gB (Nat.ble x (xN - 0) && decide ((0 : Int) ≤ 17)) (gB (Nat.ble x (xN - 0) && decide ((0 : Int) ≤ 18)) (gB (Nat.ble x (xN - 0) && decide ((0 : Int) ≤ 19)) (gB (Nat.ble x (xN - 0) && decide ((0 : Int) ≤ 20)) (gB (Nat.ble x (xN - 0) && decide ((0 : Int) ≤ 21)) (gB (Nat.ble x (xN - 0) && decide ((0 : Int) ≤ 22)) (gB (Nat.ble x (xN - 0) && decide ((0 : Int) ≤ 23)) (gB (Nat.ble x (xN - 0) && decide ((0 : Int) ≤ 24)) (gB (Nat.ble x (xN - 0) && decide ((0 : Int) ≤ 25)) (gB (Nat.ble x (xN - 0) && decide ((0 : Int) ≤ 26)) (gB (Nat.ble x (xN - 0) && decide ((0 : Int) ≤ 27)) (gB (Nat.ble x (xN - 0) && decide ((0 : Int) ≤ 28)) (gB (Nat.ble x (xN - 0) && decide ((0 : Int) ≤ 29)) (gB (Nat.ble x (xN - 0) && decide ((0 : Int) ≤ 30)) (gB (Nat.ble x (xN - 0) && decide ((0 : Int) ≤ 31)) (okV r (V.ints .u8 32 (tlF x xf 32))))))))))))))))))))))))))))))))))) := by kernel_rfl
theorem tl_at (x : Nat) (xf : Nat → Int) : ∀ k j, j < k → tlF x xf k j = atN x xf j % 256
  | 0, j, hj => by omega
  | k + 1, j, hj => by
    rw [tlF, up_at]
    split
    · rename_i h; subst h; rw [wrap_u8]; rfl
    · exact tl_at x xf k j (by omega)
noncomputable def tellO : Nat → (Nat → Int) → Nat → Int := Classical.choose (hide_ex fun x f j => atN x f j % 256)
theorem tellO_eq : tellO = fun x f j => atN x f j % 256 := Classical.choose_spec (hide_ex fun x f j => atN x f j % 256)
theorem tell_a {xN x xc : Nat} {xf : Nat → Int} (hx : x ≤ xN) : awp Tryd.prog o64 noG 300 (body Tryd.f41) (ends Tryd.prog Tryd.f41 fun v _ => okV (V.ints .u8 32 (tellO x xf)) v) ⟨[V.sl 0 0 x xc] ++ List.replicate 15 V.un, [V.tup [V.ints .i64 xN xf]]⟩ := by
  rw [tell_t]
  have g : ∀ n : Int, 0 ≤ n → (Nat.ble x (xN - 0) && decide ((0 : Int) ≤ n)) = true := fun n hn => by rw [bleT.2 (show x ≤ xN - 0 by omega), decide_eq_true hn]; rfl
  iterate 32 refine gm (g _ (by omega)) ?_
  unfold okV
  show (V.ints .u8 32 (tlF x xf 32)).den z0 = (V.ints .u8 32 (tellO x xf)).den z0
  refine ints_eq fun j hj => ?_
  rw [tl_at x xf 32 j hj, tellO_eq]
noncomputable def g41 : List V → List V → Option (Bool × V) := fun vs m => match views [] vs m with
  | some ([.sl 0 0 x xc], [.tup [.ints .i64 xN xf]]) => some (Nat.ble x xN, .ints .u8 32 (tellO x xf))
  | _ => none
theorem g41_ok (vs m : List V) (v : V) (h : g41 vs m = some (true, v)) : v.flat = true ∧ ∀ μ B w0 w, Under B w0 → Rel μ B w0 m w → PureAt Tryd.prog 41 (vs.map (V.den μ)).toArray (v.den μ) w := by
  unfold g41 at h
  split at h
  · rename_i x xc xN xf hv
    simp only [Option.some.injEq, Prod.mk.injEq, Bool.and_eq_true] at h
    obtain ⟨h1, rfl⟩ := h
    refine ⟨rfl, ?_⟩
    exact reads_ok (fn := Tryd.f41) (N := 300) (n := 15) hM o64_ok (noG_ok _) Tryd.func41 (by kernel_rfl) (by kernel_rfl) hv rfl (tell_a (bleT.1 h1)) (by kernel_rfl)
  · cases h
theorem g41_grow (vs m : List V) (z : V) (r : Bool × V) (h : g41 vs m = some r) : g41 vs (m ++ [z]) = some r := by
  unfold g41 at h ⊢
  cases hv : views [] vs m with
  | none => rw [hv] at h; cases h
  | some p => rw [hv] at h; rw [views_grow hv]; exact h
noncomputable def o41 : Orc := extM 41 g41 o64
theorem o41_ok : OrcOK Tryd.prog o41 := extM_ok o64_ok g41_ok g41_grow
end Go.Proofs.YtnoehjibponofaaDoor

/-
  The document's exported functions: contracts. Conditions: none.
-/
namespace Go.Proofs.YtnoehjibponofaaDoor
open Go.Ev Go.Num
/-- n digits that make v. -/
def Nm (n : Nat) (f : Nat → Int) (v : Int) : Prop := By n f ∧ dv 256 n f = v
theorem nm_of {n : Nat} {a : Nat → Int} (h : Nat → Int) (ha : By n a) : Nm n (apx n (fun j => IntKind.wrap .i64 (a j)) h) (dv 256 n a) := by
  have e : ∀ j, j < n → apx n (fun j => IntKind.wrap .i64 (a j)) h j = a j := fun j hj => by
    have := ha j hj
    rw [apx_at, if_pos hj, wrap_i64 _ (by omega)]
  exact ⟨fun j hj => by rw [e j hj]; exact ha j hj, dv_congr e⟩
theorem nm_apx {n : Nat} {f : Nat → Int} {v : Int} (h : Nat → Int) (hf : Nm n f v) : Nm n (apx n f h) v := by
  have e : ∀ j, j < n → apx n f h j = f j := fun j hj => by rw [apx_at, if_pos hj]
  exact ⟨fun j hj => by rw [e j hj]; exact hf.1 j hj, (dv_congr e).trans hf.2⟩
theorem nm_sum {x y n : Nat} {f g : Nat → Int} {u v : Int} (h : Nat → Int) (hf : Nm x f u) (hg : Nm y g v) (hn : n = max x y + 1) : Nm n (apx n (sumV x f y g) h) (u + v) := by
  subst hn
  obtain ⟨h1, h2⟩ := sum_num hf.1 hg.1
  exact nm_apx h ⟨h1, by rw [h2, hf.2, hg.2]⟩
theorem nm_mns {x y : Nat} {f g : Nat → Int} {u v : Int} (h : Nat → Int) (hf : Nm x f u) (hg : Nm y g v) (hxy : y ≤ x) (hv : v ≤ u) : Nm x (apx x (mnsV f y g) h) (u - v) := by
  obtain ⟨h1, h2⟩ := mns_num hf.1 hg.1 hxy (by rw [hf.2, hg.2]; exact hv)
  exact nm_apx h ⟨h1, by rw [h2, hf.2, hg.2]⟩
theorem nm_ge {n : Nat} {f : Nat → Int} {v : Int} (h : Nm n f v) : 0 ≤ v := by rw [← h.2]; exact (dv_bound (B := 256) (by omega) h.1).1
theorem st_33 {v : Int} (h0 : 0 ≤ v) (h1 : v < LL) : Nm 33 (stF v) v := by
  refine ⟨by_stF _ 33, ?_⟩
  have := dv_digits (B := 256) (by omega) (n := 33) (N := v)
  rw [show v % 256 ^ 33 = v from Int.emod_eq_of_lt h0 (by unfold LL at h1; omega)] at this
  exact this
theorem nm_mod {x : Nat} {f : Nat → Int} {u : Int} (h : Nat → Int) (hf : Nm x f u) : Nm 33 (apx 33 (modO x f) h) (u % LL) := by
  have hm := mod_nn u
  refine nm_apx h ?_
  rw [modO_eq]
  dsimp only
  rw [hf.2]
  exact st_33 hm.1 hm.2
theorem nm_cut {f : Nat → Int} {v : Int} (hf : Nm 33 f v) (hv : v < LL) : Nm 32 f v := by
  have e := hf.2
  rw [dv_top] at e
  have h32 := hf.1 32 (by omega)
  have hb := dv_bound (B := 256) (by omega) (n := 32) (a := f) fun i hi => hf.1 i (by omega)
  have hp : pw 256 32 = 115792089237316195423570985008687907853269984665640564039457584007913129639936 := by decide
  rw [hp] at e hb
  refine ⟨fun j hj => hf.1 j (by omega), ?_⟩
  unfold LL at hv
  omega
theorem nm_tell {f : Nat → Int} {v : Int} (hf : Nm 33 f v) (hv : v < LL) : (V.ints .u8 32 (tellO 33 f)).den z0 = (V.ints .u8 32 (stF v)).den z0 := by
  refine ints_eq fun j hj => ?_
  rw [tellO_eq]
  dsimp only
  rw [atN_lt (by omega)]
  have h := hf.1 j (by omega)
  have e := dv_inj (B := 256) (by omega) hf.1 (st_33 (nm_ge hf) hv).1 (by rw [hf.2, (st_33 (nm_ge hf) hv).2]) j (by omega)
  rw [e]
  have := by_stF v 33 j (by omega)
  exact Int.emod_eq_of_lt this.1 this.2
theorem nm_less {x y : Nat} {f g : Nat → Int} {u v : Int} (hf : Nm x f u) (hg : Nm y g v) : lessD x f y g (max x y) = decide (u < v) := by
  rw [lessD_v hf.1 hg.1, hf.2, hg.2]
theorem nm_ord : Nm 32 ordN LL := ⟨ordN_by, ordN_v⟩
theorem okV_ints {k : IntKind} {n : Nat} {f g : Nat → Int} (h : (V.ints k n g).den z0 = (V.ints k n f).den z0) : okV (V.ints k n f) (V.ints k n g) := h
theorem okV_bool {a b : Bool} (h : b = a) : okV (V.bool a) (V.bool b) := by rw [h]; exact okV_refl rfl
noncomputable def GD : GOrc := exG42 (exG37 (exG36 (exG53 (inl Tryd.prog o41 300 46 Tryd.f46 noG))))
theorem GD_ok : GOrcOK Tryd.prog GD := G42_ok (G37_ok (G36_ok (G53_ok (inl_ok hM o41_ok (noG_ok _) Tryd.func46 (by kernel_rfl) (by kernel_rfl)))))
theorem and_l {a b : Bool} (h : (a && b) = true) : a = true := by cases a <;> simp_all
theorem and_r {a b : Bool} (h : (a && b) = true) : b = true := by cases a <;> simp_all
theorem cut_g (e : Nat) : decide ((0 : Int) ≤ 0 ∧ (0 : Int) ≤ 32 ∧ (32 : Int) ≤ (((e + 33) : Nat) : Int)) = true := decide_eq_true (by omega)
theorem d20_t (a : Nat → Int) (r : V) : awp Tryd.prog o41 GD 300 (body Tryd.f20) (ends Tryd.prog Tryd.f20 fun v _ => okV r v) ⟨[V.ints .u8 32 a] ++ List.replicate 6 V.un, []⟩ = (∀ (e1 : Nat) (ff2 : Nat → Int), (okV r (V.bool (lessD 32 (apx 32 (fun j => IntKind.wrap .i64 (a j)) ff2) 32 ordN (max 32 32))))) := by kernel_rfl
theorem d20_a {a : Nat → Int} (hg : (byO 32 a) = true) : awp Tryd.prog o41 GD 300 (body Tryd.f20) (ends Tryd.prog Tryd.f20 fun v _ => okV (V.bool (canO a)) v) ⟨[V.ints .u8 32 a] ++ List.replicate 6 V.un, []⟩ := by
  rw [d20_t]
  have ha := byO_at hg
  intro e1 ff2
  refine okV_bool ?_
  rw [nm_less (nm_of ff2 ha) nm_ord, canO_eq]
  dsimp only
  rw [num_bytes ha]
noncomputable def g20 : List V → Option (Bool × V) := fun | [.ints .u8 32 a] => some ((byO 32 a), (V.bool (canO a))) | _ => none
theorem g20_ok (vs : List V) (v : V) (h : g20 vs = some (true, v)) : (∀ μ μ', v.den μ' = v.den μ) ∧ ∀ μ w, PureAt Tryd.prog 20 (vs.map (V.den μ)).toArray (v.den μ) w := by
  unfold g20 at h
  split at h
  · simp only [Option.some.injEq, Prod.mk.injEq] at h
    obtain ⟨h, rfl⟩ := h
    exact pure_ok (F := o41) (N := 300) (fn := Tryd.f20) (args := [_]) (r := _) (n := 6) hM o41_ok GD_ok Tryd.func20 (by kernel_rfl) (by kernel_rfl) (by kernel_rfl) (by kernel_rfl) (d20_a h) (by kernel_rfl)
  · cases h
theorem d18_t (w : Nat → Int) (r : V) : awp Tryd.prog o41 GD 300 (body Tryd.f18) (ends Tryd.prog Tryd.f18 fun v _ => okV r v) ⟨[V.ints .u8 64 w] ++ List.replicate 6 V.un, []⟩ = (∀ (e1 : Nat) (ff2 : Nat → Int), (gB (byO 64 (apx 64 (fun j => IntKind.wrap .i64 (w j)) ff2)) (∀ (e3 : Nat) (ff4 : Nat → Int), (okV r (V.ints .u8 32 (tellO 33 (apx 33 (modO 64 (apx 64 (fun j => IntKind.wrap .i64 (w j)) ff2)) ff4))))))) := by kernel_rfl
theorem d18_a {w : Nat → Int} (hg : (byO 64 w) = true) : awp Tryd.prog o41 GD 300 (body Tryd.f18) (ends Tryd.prog Tryd.f18 fun v _ => okV (V.ints .u8 32 (rdcO w)) v) ⟨[V.ints .u8 64 w] ++ List.replicate 6 V.un, []⟩ := by
  rw [d18_t]
  have hw := byO_at hg
  intro e1 ff2
  have h1 := nm_of ff2 hw
  refine gm (byO_mk h1.1) ?_
  intro e3 ff4
  have h2 := nm_mod ff4 h1
  refine okV_ints ?_
  rw [nm_tell h2 (mod_nn _).2, rdcO_eq]
  dsimp only
  rw [wide_bytes hw]
noncomputable def g18 : List V → Option (Bool × V) := fun | [.ints .u8 64 w] => some ((byO 64 w), (V.ints .u8 32 (rdcO w))) | _ => none
theorem g18_ok (vs : List V) (v : V) (h : g18 vs = some (true, v)) : (∀ μ μ', v.den μ' = v.den μ) ∧ ∀ μ w, PureAt Tryd.prog 18 (vs.map (V.den μ)).toArray (v.den μ) w := by
  unfold g18 at h
  split at h
  · simp only [Option.some.injEq, Prod.mk.injEq] at h
    obtain ⟨h, rfl⟩ := h
    exact pure_ok (F := o41) (N := 300) (fn := Tryd.f18) (args := [_]) (r := _) (n := 6) hM o41_ok GD_ok Tryd.func18 (by kernel_rfl) (by kernel_rfl) (by kernel_rfl) (by kernel_rfl) (d18_a h) (by kernel_rfl)
  · cases h
theorem d26_t (a b : Nat → Int) (r : V) : awp Tryd.prog o41 GD 300 (body Tryd.f26) (ends Tryd.prog Tryd.f26 fun v _ => okV r v) ⟨[V.ints .u8 32 a, V.ints .u8 32 b] ++ List.replicate 10 V.un, []⟩ = (((∀ (e1 : Nat) (ff2 : Nat → Int), (∀ (e3 : Nat) (ff4 : Nat → Int), (∀ (e5 : Nat) (ff6 : Nat → Int), (gB (byO 33 (apx 33 (sumV 32 (apx 32 (fun j => IntKind.wrap .i64 (a j)) ff2) 32 (apx 32 (fun j => IntKind.wrap .i64 (b j)) ff4)) ff6)) (∀ (e7 : Nat) (ff8 : Nat → Int), (okV r (V.ints .u8 32 (tellO 33 (apx 33 (modO 33 (apx 33 (sumV 32 (apx 32 (fun j => IntKind.wrap .i64 (a j)) ff2) 32 (apx 32 (fun j => IntKind.wrap .i64 (b j)) ff4)) ff6)) ff8))))))))) ∧ (∀ (e9 : Nat) (ff10 : Nat → Int), (∀ (e11 : Nat) (ff12 : Nat → Int), (∀ (e13 : Nat) (ff14 : Nat → Int), (gB (byO 33 (apx 33 (sumV 32 (apx 32 (fun j => IntKind.wrap .i64 (a j)) ff10) 32 (apx 32 (fun j => IntKind.wrap .i64 (b j)) ff12)) ff14)) (∀ (e15 : Nat) (ff16 : Nat → Int), (okV r (V.ints .u8 32 (tellO 33 (apx 33 (modO 33 (apx 33 (sumV 32 (apx 32 (fun j => IntKind.wrap .i64 (a j)) ff10) 32 (apx 32 (fun j => IntKind.wrap .i64 (b j)) ff12)) ff14)) ff16)))))))))) ∧ (∀ (e17 : Nat) (ff18 : Nat → Int), (∀ (e19 : Nat) (ff20 : Nat → Int), (∀ (e21 : Nat) (ff22 : Nat → Int), (gB (byO 33 (apx 33 (sumV 32 (apx 32 (fun j => IntKind.wrap .i64 (a j)) ff18) 32 (apx 32 (fun j => IntKind.wrap .i64 (b j)) ff20)) ff22)) (∀ (e23 : Nat) (ff24 : Nat → Int), (okV r (V.ints .u8 32 (tellO 33 (apx 33 (modO 33 (apx 33 (sumV 32 (apx 32 (fun j => IntKind.wrap .i64 (a j)) ff18) 32 (apx 32 (fun j => IntKind.wrap .i64 (b j)) ff20)) ff22)) ff24)))))))))) := by kernel_rfl
theorem d26_a {a b : Nat → Int} (hg : (byO 32 a && byO 32 b) = true) : awp Tryd.prog o41 GD 300 (body Tryd.f26) (ends Tryd.prog Tryd.f26 fun v _ => okV (V.ints .u8 32 (addO a b)) v) ⟨[V.ints .u8 32 a, V.ints .u8 32 b] ++ List.replicate 10 V.un, []⟩ := by
  rw [d26_t]
  have ha := byO_at (and_l hg)
  have hb := byO_at (and_r hg)
  have key : ∀ (f1 f2 f3 : Nat → Int), gB (byO 33 (apx 33 (sumV 32 (apx 32 (fun j => IntKind.wrap .i64 (a j)) f1) 32 (apx 32 (fun j => IntKind.wrap .i64 (b j)) f2)) f3)) (∀ (_ : Nat) (f4 : Nat → Int), okV (V.ints .u8 32 (addO a b)) (V.ints .u8 32 (tellO 33 (apx 33 (modO 33 (apx 33 (sumV 32 (apx 32 (fun j => IntKind.wrap .i64 (a j)) f1) 32 (apx 32 (fun j => IntKind.wrap .i64 (b j)) f2)) f3)) f4)))) := by
    intro f1 f2 f3
    have h1 := nm_of f1 ha
    have h2 := nm_of f2 hb
    have h3 := nm_sum (n := 33) f3 h1 h2 rfl
    refine gm (byO_mk h3.1) ?_
    intro e4 f4
    have h4 := nm_mod f4 h3
    refine okV_ints ?_
    rw [nm_tell h4 (mod_nn _).2, addO_eq]
    dsimp only
    rw [num_bytes ha, num_bytes hb]
  exact ⟨⟨(fun e1 ff2 => (fun e3 ff4 => (fun e5 ff6 => (key ff2 ff4 ff6)))), (fun e9 ff10 => (fun e11 ff12 => (fun e13 ff14 => (key ff10 ff12 ff14))))⟩, (fun e17 ff18 => (fun e19 ff20 => (fun e21 ff22 => (key ff18 ff20 ff22))))⟩
noncomputable def g26 : List V → Option (Bool × V) := fun | [.ints .u8 32 a, .ints .u8 32 b] => some ((byO 32 a && byO 32 b), (V.ints .u8 32 (addO a b))) | _ => none
theorem g26_ok (vs : List V) (v : V) (h : g26 vs = some (true, v)) : (∀ μ μ', v.den μ' = v.den μ) ∧ ∀ μ w, PureAt Tryd.prog 26 (vs.map (V.den μ)).toArray (v.den μ) w := by
  unfold g26 at h
  split at h
  · simp only [Option.some.injEq, Prod.mk.injEq] at h
    obtain ⟨h, rfl⟩ := h
    exact pure_ok (F := o41) (N := 300) (fn := Tryd.f26) (args := [_, _]) (r := _) (n := 10) hM o41_ok GD_ok Tryd.func26 (by kernel_rfl) (by kernel_rfl) (by kernel_rfl) (by kernel_rfl) (d26_a h) (by kernel_rfl)
  · cases h
theorem d30_t (a : Nat → Int) (r : V) : awp Tryd.prog o41 GD 300 (body Tryd.f30) (ends Tryd.prog Tryd.f30 fun v _ => okV r v) ⟨[V.ints .u8 32 a] ++ List.replicate 10 V.un, []⟩ = ((∀ (e1 : Nat) (ff2 : Nat → Int), (gB (byO 32 (apx 32 (fun j => IntKind.wrap .i64 (a j)) ff2)) (∀ (e3 : Nat) (ff4 : Nat → Int), (gB (decide (0 ≤ (0 : Int) ∧ (0 : Int) ≤ (32 : Int) ∧ (32 : Int) ≤ (((e3 + 33) : Nat) : Int))) (∀ (e5 : Nat) (ff6 : Nat → Int), (gB (byO 32 (apx 32 (mnsV ordN 32 (apx 33 (modO 32 (apx 32 (fun j => IntKind.wrap .i64 (a j)) ff2)) ff4)) ff6)) (∀ (e7 : Nat) (ff8 : Nat → Int), (okV r (V.ints .u8 32 (tellO 33 (apx 33 (modO 32 (apx 32 (mnsV ordN 32 (apx 33 (modO 32 (apx 32 (fun j => IntKind.wrap .i64 (a j)) ff2)) ff4)) ff6)) ff8))))))))))) ∧ (∀ (e9 : Nat) (ff10 : Nat → Int), (gB (byO 32 (apx 32 (fun j => IntKind.wrap .i64 (a j)) ff10)) (∀ (e11 : Nat) (ff12 : Nat → Int), (gB (decide (0 ≤ (0 : Int) ∧ (0 : Int) ≤ (32 : Int) ∧ (32 : Int) ≤ (((e11 + 33) : Nat) : Int))) (∀ (e13 : Nat) (ff14 : Nat → Int), (gB (byO 32 (apx 32 (mnsV ordN 32 (apx 33 (modO 32 (apx 32 (fun j => IntKind.wrap .i64 (a j)) ff10)) ff12)) ff14)) (∀ (e15 : Nat) (ff16 : Nat → Int), (okV r (V.ints .u8 32 (tellO 33 (apx 33 (modO 32 (apx 32 (mnsV ordN 32 (apx 33 (modO 32 (apx 32 (fun j => IntKind.wrap .i64 (a j)) ff10)) ff12)) ff14)) ff16)))))))))))) := by kernel_rfl
theorem d30_a {a : Nat → Int} (hg : (byO 32 a) = true) : awp Tryd.prog o41 GD 300 (body Tryd.f30) (ends Tryd.prog Tryd.f30 fun v _ => okV (V.ints .u8 32 (negO a)) v) ⟨[V.ints .u8 32 a] ++ List.replicate 10 V.un, []⟩ := by
  rw [d30_t]
  have ha := byO_at hg
  have key : ∀ (f1 : Nat → Int), gB (byO 32 (apx 32 (fun j => IntKind.wrap .i64 (a j)) f1)) (∀ (e3 : Nat) (ff4 : Nat → Int), (gB (decide ((0 : Int) ≤ 0 ∧ (0 : Int) ≤ 32 ∧ (32 : Int) ≤ (((e3 + 33) : Nat) : Int))) (∀ (_e5 : Nat) (ff6 : Nat → Int), (gB (byO 32 (apx 32 (mnsV ordN 32 (apx 33 (modO 32 (apx 32 (fun j => IntKind.wrap .i64 (a j)) f1)) ff4)) ff6)) (∀ (_e7 : Nat) (ff8 : Nat → Int), okV (V.ints .u8 32 (negO a)) (V.ints .u8 32 (tellO 33 (apx 33 (modO 32 (apx 32 (mnsV ordN 32 (apx 33 (modO 32 (apx 32 (fun j => IntKind.wrap .i64 (a j)) f1)) ff4)) ff6)) ff8)))))))) := by
    intro f1
    have h1 := nm_of f1 ha
    refine gm (byO_mk h1.1) ?_
    intro e3 ff4
    have h2 := nm_mod ff4 h1
    have hm := mod_nn (dv 256 32 a)
    have h2 := nm_cut h2 hm.2
    refine gm (cut_g e3) ?_
    intro e5 ff6
    have h3 := nm_mns ff6 nm_ord h2 (by omega) (by omega)
    refine gm (byO_mk h3.1) ?_
    intro e7 ff8
    have h4 := nm_mod ff8 h3
    refine okV_ints ?_
    rw [nm_tell h4 (mod_nn _).2, negO_eq]
    dsimp only
    have : (LL - dv 256 32 a % LL) % LL = -num a % LL := by rw [num_bytes ha]; unfold LL; omega
    rw [this]
  exact ⟨(fun e1 ff2 => (key ff2)), (fun e9 ff10 => (key ff10))⟩
noncomputable def g30 : List V → Option (Bool × V) := fun | [.ints .u8 32 a] => some ((byO 32 a), (V.ints .u8 32 (negO a))) | _ => none
theorem g30_ok (vs : List V) (v : V) (h : g30 vs = some (true, v)) : (∀ μ μ', v.den μ' = v.den μ) ∧ ∀ μ w, PureAt Tryd.prog 30 (vs.map (V.den μ)).toArray (v.den μ) w := by
  unfold g30 at h
  split at h
  · simp only [Option.some.injEq, Prod.mk.injEq] at h
    obtain ⟨h, rfl⟩ := h
    exact pure_ok (F := o41) (N := 300) (fn := Tryd.f30) (args := [_]) (r := _) (n := 10) hM o41_ok GD_ok Tryd.func30 (by kernel_rfl) (by kernel_rfl) (by kernel_rfl) (by kernel_rfl) (d30_a h) (by kernel_rfl)
  · cases h
end Go.Proofs.YtnoehjibponofaaDoor

/-
  Halving and taking away: pairs of numbers; halves, noughts and ones of lists of digits. Plain. Conditions: none.
-/
namespace Go.Proofs.YtnoehjibponofaaDoor
open Go.Ev Go.Num
theorem dvd_mk {L X : Int} (k : Int) (h : X = L * k) : X % L = 0 := by rw [h]; exact Int.mul_emod_right L k
theorem dvd_of {L X : Int} (h : X % L = 0) : ∃ k, X = L * k := ⟨X / L, by have := Int.emod_add_mul_ediv X L; omega⟩
theorem hv_step {L u c c' a : Int} (hL : L % 2 = 1) (hu : u % 2 = 0) (hc : 2 * c' = c ∨ 2 * c' = c + L) (h : (c * a - u) % L = 0) : (c' * a - u / 2) % L = 0 := by
  obtain ⟨k, hk⟩ := dvd_of h
  obtain ⟨m, hm⟩ : ∃ m, L = 2 * m + 1 := ⟨L / 2, by omega⟩
  obtain ⟨v, hv⟩ : ∃ v, u = 2 * v := ⟨u / 2, by omega⟩
  have e : u / 2 = v := by omega
  rw [e]
  rcases hc with hc | hc
  · refine dvd_mk ((c' * a - v) - m * k) ?_
    subst hv hm
    have : c = 2 * c' := by omega
    subst this
    grind
  · refine dvd_mk ((c' * a - v) - m * (k + a)) ?_
    subst hv
    have : c = 2 * c' - L := by omega
    subst this
    subst hm
    grind
theorem sub_step {L u v c d e a z : Int} (he : e = c - d + z * L) (h1 : (c * a - u) % L = 0) (h2 : (d * a - v) % L = 0) : (e * a - (u - v)) % L = 0 := by
  obtain ⟨k, hk⟩ := dvd_of h1
  obtain ⟨l, hl⟩ := dvd_of h2
  refine dvd_mk (k - l + z * a) ?_
  subst he
  grind
def Cop (p q : Int) : Prop := ∀ d : Int, 0 < d → (∃ x, p = d * x) → (∃ y, q = d * y) → d = 1
theorem cop_symm {p q : Int} (h : Cop p q) : Cop q p := fun d h0 h1 h2 => h d h0 h2 h1
theorem cop_part {e u q : Int} (h : Cop (e * u) q) : Cop u q := fun d h0 ⟨x, hx⟩ h2 => h d h0 ⟨e * x, by subst hx; grind⟩ h2
theorem cop_sub {p q : Int} (h : Cop p q) : Cop (p - q) q := fun d h0 ⟨x, hx⟩ ⟨y, hy⟩ => h d h0 ⟨x + y, by rw [Int.mul_add]; omega⟩ ⟨y, hy⟩
theorem cop_self {p : Int} (h : Cop p p) (h0 : 0 < p) : p = 1 := h p h0 ⟨1, by omega⟩ ⟨1, by omega⟩
theorem uniq {L a c i : Int} (hc : 0 ≤ c ∧ c < L) (hi : 0 ≤ i ∧ i < L) (h1 : (c * a - 1) % L = 0) (h2 : (a * i - 1) % L = 0) : c = i := by
  obtain ⟨k, hk⟩ := dvd_of h1
  obtain ⟨l, hl⟩ := dvd_of h2
  have e : c - i = L * (k * i - c * l) := by grind
  have e2 : (c - i) % L = 0 := dvd_mk _ e
  have := Int.emod_eq_of_lt hc.1 hc.2
  have h4 := Int.emod_eq_of_lt hi.1 hi.2
  have h5 : c % L = i % L := Int.emod_eq_emod_iff_emod_sub_eq_zero.2 e2
  omega
/-- What odd does to a pair. -/
def OddR (u c u2 c2 : Int) : Prop := 0 < u2 ∧ u2 % 2 = 1 ∧ (0 ≤ c2 ∧ c2 < LL) ∧ (∃ e, u = e * u2) ∧ ∀ a, (c * a - u) % LL = 0 → (c2 * a - u2) % LL = 0
theorem oddR_refl {u c : Int} (h0 : 0 < u) (h1 : u % 2 = 1) (hc : 0 ≤ c ∧ c < LL) : OddR u c u c := ⟨h0, h1, hc, ⟨1, by omega⟩, fun _ h => h⟩
theorem LL_odd : LL % 2 = 1 := by unfold LL; decide
theorem oddR_step {u c c' u2 c2 : Int} (hu : u % 2 = 0) (hc : 2 * c' = c ∨ 2 * c' = c + LL) (h : OddR (u / 2) c' u2 c2) : OddR u c u2 c2 := by
  obtain ⟨h1, h2, h3, ⟨e, he⟩, h5⟩ := h
  exact ⟨h1, h2, h3, ⟨2 * e, by rw [Int.mul_assoc, ← he]; omega⟩, fun a ha => h5 a (hv_step LL_odd hu hc ha)⟩
theorem oddR_le {u c u2 c2 : Int} (h : OddR u c u2 c2) (h0 : 0 < u) : u2 ≤ u ∧ (u % 2 = 0 → u2 < u) := by
  obtain ⟨h1, h2, _, ⟨e, he⟩, _⟩ := h
  have h3 : 0 < e := by
    rcases Int.lt_or_le 0 e with h | h
    · exact h
    · have := Int.mul_nonneg (a := -e) (b := u2) (by omega) (by omega)
      rw [Int.neg_mul] at this; omega
  have h4 : (e - 1) * u2 ≥ 0 := Int.mul_nonneg (by omega) (by omega)
  rw [Int.sub_mul] at h4
  refine ⟨by omega, fun h5 => ?_⟩
  have : u2 ≠ u := fun h => by omega
  omega
theorem cop_prime {x : Int} (h0 : 0 < x) (h1 : x < LL) : Cop x LL := fun d hd ⟨y, hy⟩ ⟨z, hz⟩ => by
  have hL : LL = ((7237005577332262213973186563042994240857116359379907606001950938285454250989 : Nat) : Int) := rfl
  have hdn : ((d.toNat : Nat) : Int) = d := by omega
  have hdv : ((d.toNat : Nat) : Int) ∣ ((7237005577332262213973186563042994240857116359379907606001950938285454250989 : Nat) : Int) := ⟨z, by rw [hdn, ← hL, hz]⟩
  rcases prL.2 _ (Int.natCast_dvd_natCast.1 hdv) with h | h
  · omega
  · exfalso
    have hdL : d = LL := by rw [hL, ← hdn, h]
    have hy0 : 0 < y := by
      rcases Int.lt_or_le 0 y with h | h
      · exact h
      · have := Int.mul_nonneg (a := d) (b := -y) (by omega) (by omega)
        rw [Int.mul_neg] at this; omega
    have := Int.mul_nonneg (a := d) (b := y - 1) (by omega) (by omega)
    rw [Int.mul_sub] at this
    omega
/-! ### Lists -/
theorem dv_none {n : Nat} {f : Nat → Int} (hf : By n f) : ∀ k, k ≤ n → dv 256 k f = 0 → ∀ j, j < k → f j = 0
  | 0, _, _, j, hj => by omega
  | k + 1, hk, h, j, hj => by
    rw [dv_top] at h
    have b1 := dv_bound (B := 256) (by omega) (n := k) (a := f) fun i hi => hf i (by omega)
    have b2 := hf k (by omega)
    have hp : 0 < pw 256 k := by rw [pw_eq]; exact Int.pow_pos (by omega)
    have b3 := Int.mul_nonneg (a := pw 256 k) (b := f k) (by omega) b2.1
    have h0 : dv 256 k f = 0 := by omega
    have h1 : pw 256 k * f k = 0 := by omega
    rcases Int.mul_eq_zero.1 h1 with h2 | h2
    · omega
    · by_cases e : j = k
      · rw [e]; exact h2
      · exact dv_none hf k (by omega) h0 j (by omega)
theorem dv_some {n : Nat} {f : Nat → Int} (h : ∀ j, j < n → f j = 0) : dv 256 n f = 0 := (dv_congr (b := fun _ => 0) h).trans dv_zero
theorem dv_first {n : Nat} {f : Nat → Int} : dv 256 (1 + n) f = f 0 + 256 * dv 256 n (fun i => f (1 + i)) := by
  rw [dv_split]; simp [dv, pw]
theorem hl_at {n : Nat} {f : Nat → Int} (hf : By n f) {j : Nat} (hj : j < n) : addI .i64 (quoI .i64 (f j) 2) (mulI .i64 128 (remI (atN n f (j + 1)) 2)) = f j / 2 + 128 * (atN n f (j + 1) % 2) := by
  have h1 := hf j hj
  have h2 := by_at (n := j + 2) hf (j + 1) (by omega)
  have e1 : quoI .i64 (f j) 2 = f j / 2 := by unfold quoI; rw [Int.tdiv_eq_ediv_of_nonneg h1.1, wrap_i64 _ (by omega)]
  have e2 : remI (atN n f (j + 1)) 2 = atN n f (j + 1) % 2 := by unfold remI; rw [Int.tmod_eq_emod_of_nonneg h2.1]
  have e3 : mulI .i64 128 (atN n f (j + 1) % 2) = 128 * (atN n f (j + 1) % 2) := by unfold mulI; rw [wrap_i64 _ (by omega)]
  rw [e1, e2, e3, add64 (by omega) (by omega)]
theorem hl_v {n : Nat} {f h : Nat → Int} (hf : By n f) (hn : 0 < n) (hh : ∀ j, j < n → h j = f j / 2 + 128 * (atN n f (j + 1) % 2)) : ∀ k, k ≤ n → 2 * dv 256 k h + f 0 % 2 = dv 256 k f + pw 256 k * (atN n f k % 2)
  | 0, _ => by rw [atN_lt hn]; simp [dv, pw]
  | k + 1, hk => by
    have ih := hl_v hf hn hh k (by omega)
    rw [atN_lt (by omega)] at ih
    rw [dv_top, dv_top, hh k (by omega), pw]
    obtain ⟨q, hq⟩ : ∃ q, q = f k / 2 := ⟨_, rfl⟩
    obtain ⟨r, hr⟩ : ∃ r, r = f k % 2 := ⟨_, rfl⟩
    have e : f k = 2 * q + r := by omega
    rw [← hq]
    rw [← hr] at ih
    rw [e]
    generalize atN n f (k + 1) % 2 = b
    generalize pw 256 k = P at *
    generalize dv 256 k h = X at *
    generalize dv 256 k f = Y at *
    generalize f 0 % 2 = z at *
    grind
theorem hl_num {n : Nat} {f h : Nat → Int} (hf : By n f) (hn : 0 < n) (hh : ∀ j, j < n → h j = f j / 2 + 128 * (atN n f (j + 1) % 2)) : By n h ∧ dv 256 n h = dv 256 n f / 2 ∧ dv 256 n f % 2 = f 0 % 2 := by
  have e := hl_v hf hn hh n (Nat.le_refl _)
  rw [atN_ge (Nat.le_refl _)] at e
  refine ⟨fun j hj => ?_, by omega, by omega⟩
  have h1 := hf j hj
  have h2 := by_at (n := j + 2) hf (j + 1) (by omega)
  rw [hh j hj]
  omega
theorem par_v {n : Nat} {f : Nat → Int} (hf : By n f) (hn : 0 < n) : dv 256 n f % 2 = f 0 % 2 := (hl_num (h := fun j => f j / 2 + 128 * (atN n f (j + 1) % 2)) hf hn (fun _ _ => rfl)).2.2
theorem fin_inv {a : Nat → Int} (h : num a % LL ≠ 0) {c : Int} (hc : 0 ≤ c ∧ c < LL) (h1 : (c * num a - 1) % LL = 0) : c = num (invO a) := by
  have h2 := inv_mul h
  refine uniq hc (by rw [num_inv]; exact mod_nn _) h1 ?_
  exact dvd_mk (num a * num (invO a) / LL) (by have := Int.emod_add_mul_ediv (num a * num (invO a)) LL; omega)
end Go.Proofs.YtnoehjibponofaaDoor

/-
  ScalarReduces, ScalarSums: the laws' answers. Conditions: none.
-/
namespace Go.Proofs.YtnoehjibponofaaDoor
open Go.Ev Go.Num
noncomputable def d20 : Orc := ext 20 g20 p13
theorem d20_ok : OrcOK Tryd.prog d20 := ext_ok p13_ok g20_ok
noncomputable def d18 : Orc := ext 18 g18 d20
theorem d18_ok : OrcOK Tryd.prog d18 := ext_ok d20_ok g18_ok
noncomputable def d26 : Orc := ext 26 g26 d18
theorem d26_ok : OrcOK Tryd.prog d26 := ext_ok d18_ok g26_ok
noncomputable def d30 : Orc := ext 30 g30 d26
theorem d30_ok : OrcOK Tryd.prog d30 := ext_ok d26_ok g30_ok
theorem by_negO (a : Nat → Int) (n : Nat) : By n (negO a) := by rw [neg_st]; exact by_stF _ n
theorem by_addO (a b : Nat → Int) (n : Nat) : By n (addO a b) := by rw [add_st]; exact by_stF _ n
theorem by_mulO (a b : Nat → Int) (n : Nat) : By n (mulO a b) := by rw [mul_st]; exact by_stF _ n
theorem d28_t (a b : Nat → Int) (r : V) : awp Tryd.prog d30 noG 300 (body Tryd.f28) (ends Tryd.prog Tryd.f28 fun v _ => okV r v) ⟨[V.ints .u8 32 a, V.ints .u8 32 b] ++ List.replicate 7 V.un, []⟩ = (gB (byO 32 b) (gB (byO 32 a && byO 32 (negO b)) (okV r (V.ints .u8 32 (addO a (negO b)))))) := by kernel_rfl
theorem d28_a {a b : Nat → Int} (hg : (byO 32 a && byO 32 b) = true) : awp Tryd.prog d30 noG 300 (body Tryd.f28) (ends Tryd.prog Tryd.f28 fun v _ => okV (V.ints .u8 32 (addO a (negO b))) v) ⟨[V.ints .u8 32 a, V.ints .u8 32 b] ++ List.replicate 7 V.un, []⟩ := by
  rw [d28_t]
  exact gm (and_r hg) (gm (both (and_l hg) (byO_mk (by_negO b 32))) (okV_refl rfl))
noncomputable def g28 : List V → Option (Bool × V) := fun | [.ints .u8 32 a, .ints .u8 32 b] => some ((byO 32 a && byO 32 b), V.ints .u8 32 (addO a (negO b))) | _ => none
theorem g28_ok (vs : List V) (v : V) (h : g28 vs = some (true, v)) : (∀ μ μ', v.den μ' = v.den μ) ∧ ∀ μ w, PureAt Tryd.prog 28 (vs.map (V.den μ)).toArray (v.den μ) w := by
  unfold g28 at h
  split at h
  · simp only [Option.some.injEq, Prod.mk.injEq] at h
    obtain ⟨h, rfl⟩ := h
    exact pure_ok (F := d30) (N := 300) (fn := Tryd.f28) (args := [_, _]) (r := _) (n := 7) hM d30_ok (noG_ok _) Tryd.func28 (by kernel_rfl) (by kernel_rfl) (by kernel_rfl) (by kernel_rfl) (d28_a h) (by kernel_rfl)
  · cases h
noncomputable def d28 : Orc := ext 28 g28 d30
theorem d28_ok : OrcOK Tryd.prog d28 := ext_ok d30_ok g28_ok
theorem by_w32 {w : Nat → Int} (hw : By 64 w) : By 32 (w32 w) := fun j hj => by rw [w32_lo w j hj]; exact hw j (by omega)
theorem no_eq {a : Nat → Int} {A : Prop} (h : eqN 32 a a = false) : A := by rw [eqN_refl] at h; cases h
theorem lawReduces_t (w : Nat → Int) : awp Tryd.prog d28 noG 300 (body Tryd.f4) (ends Tryd.prog Tryd.f4 fun v _ => okV (V.bool true) v) ⟨[(V.ints .u8 64 w)] ++ List.replicate 25 V.un, [(V.tup [V.fn 2, (V.ints .u64 4 ordF)])]⟩ = (gB (byO 64 w) (mB (eqN 32 (rdcO w) (rdcO w)) (gB (byO 32 (w32 w)) (okV (V.bool true) (V.bool ((canO (w32 w)) == (canO (w32 w)))))) (okV (V.bool true) (V.bool false)))) := by kernel_rfl
theorem lawReduces_a {w : Nat → Int} (hw : By 64 w) : awp Tryd.prog d28 noG 300 (body Tryd.f4) (ends Tryd.prog Tryd.f4 fun v _ => okV (V.bool true) v) ⟨[(V.ints .u8 64 w)] ++ List.replicate 25 V.un, [(V.tup [V.fn 2, (V.ints .u64 4 ordF)])]⟩ := by
  rw [lawReduces_t]
  refine gm (byO_mk hw) (mBt (fun _ => gm (byO_mk (by_w32 hw)) (okV_bool ?_)) (fun h => no_eq h))
  exact beq_self_eq_true _
theorem lawSums_t (a b : Nat → Int) : awp Tryd.prog d28 noG 300 (body Tryd.f6) (ends Tryd.prog Tryd.f6 fun v _ => okV (V.bool true) v) ⟨[(V.ints .u8 32 a), (V.ints .u8 32 b)] ++ List.replicate 26 V.un, [(V.tup [V.fn 2, (V.ints .u64 4 ordF)])]⟩ = (gB ((byO 32 a) && (byO 32 b)) (mB (eqN 32 (addO a b) (addO a b)) (gB ((byO 32 a) && (byO 32 b)) (mB (eqN 32 (addO a (negO b)) (addO a (negO b))) (gB (byO 32 a) (okV (V.bool true) (V.bool (eqN 32 (negO a) (negO a))))) (okV (V.bool true) (V.bool false)))) (okV (V.bool true) (V.bool false)))) := by kernel_rfl
theorem lawSums_a {a b : Nat → Int} (ha : By 32 a) (hb : By 32 b) : awp Tryd.prog d28 noG 300 (body Tryd.f6) (ends Tryd.prog Tryd.f6 fun v _ => okV (V.bool true) v) ⟨[(V.ints .u8 32 a), (V.ints .u8 32 b)] ++ List.replicate 26 V.un, [(V.tup [V.fn 2, (V.ints .u64 4 ordF)])]⟩ := by
  rw [lawSums_t]
  have g := both (byO_mk ha) (byO_mk hb)
  refine gm g (mBt (fun _ => gm g (mBt (fun _ => gm (byO_mk ha) (okV_bool (eqN_refl _ _))) (fun h => no_eq h))) (fun h => no_eq h))
end Go.Proofs.YtnoehjibponofaaDoor

/-
  Short forms; nought, one, the half and the pair: what is hidden. Conditions: none.
-/
namespace Go.Proofs.YtnoehjibponofaaDoor
open Go.Ev Go.Num
theorem mBy {c : Bool} {A B : Prop} (h : c = true) (k : A) : mB c A B := mBt (fun _ => k) (fun e => by rw [h] at e; cases e)
theorem mBn {c : Bool} {A B : Prop} (h : c = false) (k : B) : mB c A B := mBt (fun e => by rw [h] at e; cases e) (fun _ => k)
theorem ix (k : Nat) : 0 + (Int.toNat (k : Int) * 1) = k := by rw [Int.toNat_natCast]; omega
theorem gB_t {b : Bool} {A : Prop} (h : gB b A) : b = true ∧ A := by cases b <;> simp_all [gB]
theorem mB_t {b : Bool} {A B : Prop} (h : mB b A B) : (b = true → A) ∧ (b = false → B) := by cases b <;> simp_all [mB]
def vI (n : Int) : V := .int .i64 n
def vP (i : Nat) : V := .ptr i 0
def vT : V := .bool true
def vS (i n c : Nat) : V := .sl i 0 n c
def vB (n : Nat) (f : Nat → Bool) : V := .bools n f
abbrev nG : GOrc := noG
theorem nG_ok : GOrcOK Tryd.prog nG := noG_ok _
/-- Are the n digits from place o on all nought? -/
def zeB (n o : Nat) (f : Nat → Int) : Bool := decide (∀ j, j < n → f (o + j) = 0)
noncomputable def zeO : Nat → Nat → (Nat → Int) → Bool := Classical.choose (hide_ex zeB)
theorem zeO_eq : zeO = zeB := Classical.choose_spec (hide_ex zeB)
theorem ze_yes {n o : Nat} {f : Nat → Int} (h : ∀ j, j < n → f (o + j) = 0) : zeO n o f = true := by rw [zeO_eq]; exact decide_eq_true h
theorem ze_no {n o : Nat} {f : Nat → Int} {j : Nat} (hj : j < n) (h : f (o + j) ≠ 0) : zeO n o f = false := by rw [zeO_eq]; exact decide_eq_false fun e => h (e j hj)
theorem ze_dv {n : Nat} {f : Nat → Int} (hf : By n f) : zeO n 0 f = decide (dv 256 n f = 0) := by
  rw [zeO_eq]
  unfold zeB
  rw [decide_eq_decide]
  exact ⟨fun h => dv_some fun j hj => by have := h j hj; rwa [Nat.zero_add] at this, fun h j hj => by rw [Nat.zero_add]; exact dv_none hf n (Nat.le_refl _) h j hj⟩
/-- Are they one? -/
def onB (n : Nat) (f : Nat → Int) : Bool := (f 0 == 1) && zeB n 1 f
noncomputable def onO : Nat → (Nat → Int) → Bool := Classical.choose (hide_ex onB)
theorem onO_eq : onO = onB := Classical.choose_spec (hide_ex onB)
theorem on_dv {f : Nat → Int} (hf : By 33 f) : onO 32 f = decide (dv 256 33 f = 1) := by
  rw [onO_eq]
  unfold onB
  have h0 := hf 0 (by omega)
  have hb : By 32 (fun i => f (1 + i)) := fun j hj => hf (1 + j) (by omega)
  have b := dv_bound (B := 256) (by omega) hb
  have e : dv 256 33 f = f 0 + 256 * dv 256 32 (fun i => f (1 + i)) := dv_first (n := 32)
  by_cases h1 : f 0 = 1
  · have hz := ze_dv hb
    rw [zeO_eq] at hz
    have hz2 : zeB 32 1 f = zeB 32 0 (fun i => f (1 + i)) := by unfold zeB; rw [decide_eq_decide]; exact ⟨fun h j hj => by rw [Nat.zero_add]; exact h j hj, fun h j hj => by have := h j hj; rwa [Nat.zero_add] at this⟩
    rw [hz2, hz, h1, beq_self_eq_true, Bool.true_and, decide_eq_decide]
    omega
  · rw [show (f 0 == 1) = false from beq_false_of_ne h1, Bool.false_and]
    exact (decide_eq_false (by omega)).symm
end Go.Proofs.YtnoehjibponofaaDoor
