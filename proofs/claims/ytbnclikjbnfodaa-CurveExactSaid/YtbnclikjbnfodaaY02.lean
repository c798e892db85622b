/-
  A part of the groundwork of this seat's claims: an evaluator over the program, walks, and plain mathematics. Conditions: none.
-/
import Derived.Test.YtbnclikjbnfodaaY01
namespace Go.Proofs.Ytbnclikjbnfodaa
open Go.Ev
theorem rPow_h (a0 : (Nat → Int)) (e : (Nat → Int)) (N : Nat) (K : V → List V → Prop) : awp Try.prog o46 noG N (body Try.f47) (ends Try.prog Try.f47 K) ⟨[(V.ints .u64 10 a0), (V.ints .u8 32 e)] ++ List.replicate 26 V.un, []⟩ = lp (awp Try.prog o46 noG N (loopOf (body Try.f47))) (spineQ Try.prog o46 noG N (body Try.f47) (ends Try.prog Try.f47 K)) N ⟨[(V.ints .u64 10 a0), (V.ints .u8 32 e), (V.ptr 0 0), (V.ptr 1 0), (V.ptr 2 0), (V.ptr 3 0), (V.int .i64 255), (V.ints .u64 10 (rSmall 1)), V.un, V.un, V.un, V.un, V.un, V.un, V.un, V.un, V.un, V.un, V.un, V.un, V.un, V.un, V.un, V.un, V.un, V.un, V.un, V.un], [(V.ints .u64 10 a0), (V.ints .u8 32 e), (V.ints .u64 10 (fun _ => 0)), (V.ints .u64 10 (rSmall 1))]⟩ := by kernel_rfl
theorem rPow_s (a0 : (Nat → Int)) (e : (Nat → Int)) (a : Nat → Int) (i : Int) (t8 t9 t10 t11 t12 t13 t14 t15 t16 t17 t18 t19 t20 t21 t22 t23 t24 t25 t26 : V) (Q : Exit → St → Prop) (n : Nat) : lp (awp Try.prog o46 noG 300 (loopOf (body Try.f47))) Q (n + 1) ⟨[(V.ints .u64 10 a0), (V.ints .u8 32 e), (V.ptr 0 0), (V.ptr 1 0), (V.ptr 2 0), (V.ptr 3 0), (V.int .i64 i), (V.ints .u64 10 (rSmall 1)), t8, t9, t10, t11, t12, t13, t14, t15, t16, t17, t18, t19, t20, t21, t22, t23, t24, t25, t26, V.un], [(V.ints .u64 10 a0), (V.ints .u8 32 e), (V.ints .u64 10 (fun _ => 0)), (V.ints .u64 10 a)]⟩ = (mB (decide (i ≥ 0)) (gB (decide (0 ≤ (quoI .i64 i 8) ∧ (quoI .i64 i 8) < 32)) (gB (Nat.blt (0 + (Int.toNat (quoI .i64 i 8) * 1)) 32) (gB (decide (0 ≤ (remI i 8))) (mB ((andI .u8 (shrI .u8 (e (0 + (Int.toNat (quoI .i64 i 8) * 1))) (remI i 8)) 1) == 1) (lp (awp Try.prog o46 noG 300 (loopOf (body Try.f47))) Q n ⟨[(V.ints .u64 10 a0), (V.ints .u8 32 e), (V.ptr 0 0), (V.ptr 1 0), (V.ptr 2 0), (V.ptr 3 0), (V.int .i64 (subI .i64 i 1)), (V.ints .u64 10 (rSmall 1)), (V.int .i64 i), (V.bool (decide (i ≥ 0))), (V.int .i64 i), (V.int .i64 (subI .i64 i 1)), (V.ints .u64 10 a), (V.ints .u64 10 a), (V.ints .u64 10 (rMul a a)), (V.int .i64 i), (V.int .i64 (quoI .i64 i 8)), (V.ptr 1 (0 + (Int.toNat (quoI .i64 i 8) * 1))), (V.int .u8 (e (0 + (Int.toNat (quoI .i64 i 8) * 1)))), (V.int .i64 i), (V.int .i64 (remI i 8)), (V.int .u8 (shrI .u8 (e (0 + (Int.toNat (quoI .i64 i 8) * 1))) (remI i 8))), (V.int .u8 (andI .u8 (shrI .u8 (e (0 + (Int.toNat (quoI .i64 i 8) * 1))) (remI i 8)) 1)), (V.bool ((andI .u8 (shrI .u8 (e (0 + (Int.toNat (quoI .i64 i 8) * 1))) (remI i 8)) 1) == 1)), (V.ints .u64 10 (rMul a a)), (V.ints .u64 10 a0), (V.ints .u64 10 (rMul (rMul a a) a0)), V.un], [(V.ints .u64 10 a0), (V.ints .u8 32 e), (V.ints .u64 10 (fun _ => 0)), (V.ints .u64 10 (rMul (rMul a a) a0))]⟩) (lp (awp Try.prog o46 noG 300 (loopOf (body Try.f47))) Q n ⟨[(V.ints .u64 10 a0), (V.ints .u8 32 e), (V.ptr 0 0), (V.ptr 1 0), (V.ptr 2 0), (V.ptr 3 0), (V.int .i64 (subI .i64 i 1)), (V.ints .u64 10 (rSmall 1)), (V.int .i64 i), (V.bool (decide (i ≥ 0))), (V.int .i64 i), (V.int .i64 (subI .i64 i 1)), (V.ints .u64 10 a), (V.ints .u64 10 a), (V.ints .u64 10 (rMul a a)), (V.int .i64 i), (V.int .i64 (quoI .i64 i 8)), (V.ptr 1 (0 + (Int.toNat (quoI .i64 i 8) * 1))), (V.int .u8 (e (0 + (Int.toNat (quoI .i64 i 8) * 1)))), (V.int .i64 i), (V.int .i64 (remI i 8)), (V.int .u8 (shrI .u8 (e (0 + (Int.toNat (quoI .i64 i 8) * 1))) (remI i 8))), (V.int .u8 (andI .u8 (shrI .u8 (e (0 + (Int.toNat (quoI .i64 i 8) * 1))) (remI i 8)) 1)), (V.bool ((andI .u8 (shrI .u8 (e (0 + (Int.toNat (quoI .i64 i 8) * 1))) (remI i 8)) 1) == 1)), t24, t25, t26, V.un], [(V.ints .u64 10 a0), (V.ints .u8 32 e), (V.ints .u64 10 (fun _ => 0)), (V.ints .u64 10 (rMul a a))]⟩))))) (Q (.exit 0) ⟨[(V.ints .u64 10 a0), (V.ints .u8 32 e), (V.ptr 0 0), (V.ptr 1 0), (V.ptr 2 0), (V.ptr 3 0), (V.int .i64 i), (V.ints .u64 10 (rSmall 1)), (V.int .i64 i), (V.bool (decide (i ≥ 0))), t10, t11, t12, t13, t14, t15, t16, t17, t18, t19, t20, t21, t22, t23, t24, t25, t26, V.un], [(V.ints .u64 10 a0), (V.ints .u8 32 e), (V.ints .u64 10 (fun _ => 0)), (V.ints .u64 10 a)]⟩)) := by kernel_rfl
theorem rPow_x (a0 : (Nat → Int)) (e : (Nat → Int)) (a : Nat → Int) (i : Int) (t8 t9 t10 t11 t12 t13 t14 t15 t16 t17 t18 t19 t20 t21 t22 t23 t24 t25 t26 : V) (R : V) : spineQ Try.prog o46 noG 300 (body Try.f47) (ends Try.prog Try.f47 fun v _ => okV R v) (.exit 0) ⟨[(V.ints .u64 10 a0), (V.ints .u8 32 e), (V.ptr 0 0), (V.ptr 1 0), (V.ptr 2 0), (V.ptr 3 0), (V.int .i64 i), (V.ints .u64 10 (rSmall 1)), t8, t9, t10, t11, t12, t13, t14, t15, t16, t17, t18, t19, t20, t21, t22, t23, t24, t25, t26, V.un], [(V.ints .u64 10 a0), (V.ints .u8 32 e), (V.ints .u64 10 (fun _ => 0)), (V.ints .u64 10 a)]⟩ = (okV R (V.ints .u64 10 a)) := by kernel_rfl

/-- The content behind one round more. -/
def rPow_st (a0 : (Nat → Int)) (e : (Nat → Int)) (i : Int) (a : Nat → Int) : Nat → Int := (cond ((andI .u8 (shrI .u8 (e (0 + (Int.toNat (quoI .i64 i 8) * 1))) (remI i 8)) 1) == 1) (rMul (rMul a a) a0) (rMul a a))
def rPow_it (a0 : (Nat → Int)) (e : (Nat → Int)) : Nat → (Nat → Int)
  | 0 => (rSmall 1)
  | k + 1 => rPow_st a0 e ((256 - 1 - k : Nat) : Int) (rPow_it a0 e k)
theorem rPow_l (a0 : (Nat → Int)) (e : (Nat → Int)) (Q : Exit → St → Prop) (hQ : ∀ (t8 t9 t10 t11 t12 t13 t14 t15 t16 t17 t18 t19 t20 t21 t22 t23 t24 t25 t26 : V), Q (.exit 0) ⟨[(V.ints .u64 10 a0), (V.ints .u8 32 e), (V.ptr 0 0), (V.ptr 1 0), (V.ptr 2 0), (V.ptr 3 0), (V.int .i64 (((256 : Nat) : Int) - 1 - ((256 : Nat) : Int))), (V.ints .u64 10 (rSmall 1)), t8, t9, t10, t11, t12, t13, t14, t15, t16, t17, t18, t19, t20, t21, t22, t23, t24, t25, t26, V.un], [(V.ints .u64 10 a0), (V.ints .u8 32 e), (V.ints .u64 10 (fun _ => 0)), (V.ints .u64 10 (rPow_it a0 e 256))]⟩) : ∀ (d k n : Nat), k + d = 256 → d + 1 ≤ n → ∀ (t8 t9 t10 t11 t12 t13 t14 t15 t16 t17 t18 t19 t20 t21 t22 t23 t24 t25 t26 : V), lp (awp Try.prog o46 noG 300 (loopOf (body Try.f47))) Q n ⟨[(V.ints .u64 10 a0), (V.ints .u8 32 e), (V.ptr 0 0), (V.ptr 1 0), (V.ptr 2 0), (V.ptr 3 0), (V.int .i64 (((256 : Nat) : Int) - 1 - (k : Int))), (V.ints .u64 10 (rSmall 1)), t8, t9, t10, t11, t12, t13, t14, t15, t16, t17, t18, t19, t20, t21, t22, t23, t24, t25, t26, V.un], [(V.ints .u64 10 a0), (V.ints .u8 32 e), (V.ints .u64 10 (fun _ => 0)), (V.ints .u64 10 (rPow_it a0 e k))]⟩
  | 0, k, n, hk, hn, t8, t9, t10, t11, t12, t13, t14, t15, t16, t17, t18, t19, t20, t21, t22, t23, t24, t25, t26 => by
    obtain ⟨n, rfl⟩ : ∃ m, n = m + 1 := ⟨n - 1, by omega⟩
    obtain rfl : k = 256 := by omega
    rw [rPow_s]
    refine mBt (fun h => absurd (of_decide_eq_true h) (by simp)) (fun _ => ?_)
    exact hQ _ _ _ _ _ _ _ _ _ _ _ _ _ _ _ _ _ _ _
  | d + 1, k, n, hk, hn, t8, t9, t10, t11, t12, t13, t14, t15, t16, t17, t18, t19, t20, t21, t22, t23, t24, t25, t26 => by
    obtain ⟨n, rfl⟩ : ∃ m, n = m + 1 := ⟨n - 1, by omega⟩
    have hi : (0 : Int) ≤ (((256 : Nat) : Int) - 1 - (k : Int)) ∧ (((256 : Nat) : Int) - 1 - (k : Int)) < 256 := by omega
    have hix : (((256 : Nat) : Int) - 1 - (k : Int)) = ((256 - 1 - k : Nat) : Int) := by omega
    rw [hix] at hi ⊢
    have g0 : (decide (0 ≤ (quoI .i64 ((256 - 1 - k : Nat) : Int) 8) ∧ (quoI .i64 ((256 - 1 - k : Nat) : Int) 8) < 32)) = true := by first | (rw [show quoI .i64 ((256 - 1 - k : Nat) : Int) 8 = (((256 - 1 - k) / 8 : Nat) : Int) from quo_nat (256 - 1 - k) 8 (by omega)]; exact bltT.2 (by simp; omega)) | (rw [show quoI .i64 ((256 - 1 - k : Nat) : Int) 8 = (((256 - 1 - k) / 8 : Nat) : Int) from quo_nat (256 - 1 - k) 8 (by omega)]; simp; omega) | (rw [show remI ((256 - 1 - k : Nat) : Int) 8 = (((256 - 1 - k) % 8 : Nat) : Int) from rem_nat (256 - 1 - k) 8]; simp; omega)
    have g1 : (Nat.blt (0 + (Int.toNat (quoI .i64 ((256 - 1 - k : Nat) : Int) 8) * 1)) 32) = true := by first | (rw [show quoI .i64 ((256 - 1 - k : Nat) : Int) 8 = (((256 - 1 - k) / 8 : Nat) : Int) from quo_nat (256 - 1 - k) 8 (by omega)]; exact bltT.2 (by simp; omega)) | (rw [show quoI .i64 ((256 - 1 - k : Nat) : Int) 8 = (((256 - 1 - k) / 8 : Nat) : Int) from quo_nat (256 - 1 - k) 8 (by omega)]; simp; omega) | (rw [show remI ((256 - 1 - k : Nat) : Int) 8 = (((256 - 1 - k) % 8 : Nat) : Int) from rem_nat (256 - 1 - k) 8]; simp; omega)
    have g2 : (decide (0 ≤ (remI ((256 - 1 - k : Nat) : Int) 8))) = true := by first | (rw [show quoI .i64 ((256 - 1 - k : Nat) : Int) 8 = (((256 - 1 - k) / 8 : Nat) : Int) from quo_nat (256 - 1 - k) 8 (by omega)]; exact bltT.2 (by simp; omega)) | (rw [show quoI .i64 ((256 - 1 - k : Nat) : Int) 8 = (((256 - 1 - k) / 8 : Nat) : Int) from quo_nat (256 - 1 - k) 8 (by omega)]; simp; omega) | (rw [show remI ((256 - 1 - k : Nat) : Int) 8 = (((256 - 1 - k) % 8 : Nat) : Int) from rem_nat (256 - 1 - k) 8]; simp; omega)
    have hnx : (subI .i64 ((256 - 1 - k : Nat) : Int) 1) = (((256 : Nat) : Int) - 1 - ((k + 1 : Nat) : Int)) := by rw [sub1_nat _ (by omega)]; omega
    rw [rPow_s]
    refine mBt (fun _ => ?_) (fun h => absurd hi.1 (of_decide_eq_false h))
    refine gm g0 ?_
    refine gm g1 ?_
    refine gm g2 ?_
    refine mBt (fun c0 => ?_) (fun c0 => ?_)
    · rw [hnx]
      have h := rPow_l a0 e Q hQ d (k + 1) n (by omega) (by omega)
      simp only [rPow_it, rPow_st, c0, cond_true] at h
      exact h _ _ _ _ _ _ _ _ _ _ _ _ _ _ _ _ _ _ _
    · rw [hnx]
      have h := rPow_l a0 e Q hQ d (k + 1) n (by omega) (by omega)
      simp only [rPow_it, rPow_st, c0, cond_false] at h
      exact h _ _ _ _ _ _ _ _ _ _ _ _ _ _ _ _ _ _ _

def rPow (a0 e : Nat → Int) : Nat → Int := rPow_it a0 e 256
theorem rPow_a (a0 : (Nat → Int)) (e : (Nat → Int)) : awp Try.prog o46 noG 300 (body Try.f47) (ends Try.prog Try.f47 fun v _ => okV (V.ints .u64 10 (rPow a0 e)) v) ⟨[(V.ints .u64 10 a0), (V.ints .u8 32 e)] ++ List.replicate 26 V.un, []⟩ := by
  rw [rPow_h]
  exact rPow_l a0 e _ (fun _ _ _ _ _ _ _ _ _ _ _ _ _ _ _ _ _ _ _ => by rw [rPow_x]; exact okV_refl rfl) 256 0 300 (by omega) (by omega) _ _ _ _ _ _ _ _ _ _ _ _ _ _ _ _ _ _ _

def g47 : List V → Option (Bool × V) := fun | [.ints .u64 10 a0, .ints .u8 32 e] => some (true, (V.ints .u64 10 (rPow a0 e))) | _ => none
theorem rPow_p (a0 : (Nat → Int)) (e : (Nat → Int)) : (∀ μ μ', V.den μ' (V.ints .u64 10 (rPow a0 e)) = V.den μ (V.ints .u64 10 (rPow a0 e))) ∧ ∀ μ w, PureAt Try.prog 47 (([(V.ints .u64 10 a0), (V.ints .u8 32 e)] : List V).map (V.den μ)).toArray (V.den μ (V.ints .u64 10 (rPow a0 e))) w :=
  pure_ok (F := o46) (N := 300) (fn := Try.f47) (args := [(V.ints .u64 10 a0), (V.ints .u8 32 e)]) (r := (V.ints .u64 10 (rPow a0 e))) (n := 26) hM o46_ok (noG_ok _) Try.func47 (by kernel_rfl) (by kernel_rfl) (by kernel_rfl) (by kernel_rfl) (rPow_a a0 e) (by kernel_rfl)
theorem g47_ok (vs : List V) (v : V) (h : g47 vs = some (true, v)) : (∀ μ μ', v.den μ' = v.den μ) ∧ ∀ μ w, PureAt Try.prog 47 (vs.map (V.den μ)).toArray (v.den μ) w := by
  unfold g47 at h
  split at h
  · simp only [Option.some.injEq, Prod.mk.injEq, true_and] at h
    subst h
    exact rPow_p _ _
  · simp at h
def o47 : Orc := ext 47 g47 o46
theorem o47_ok : OrcOK Try.prog o47 := ext_ok o46_ok g47_ok

/- field.power -/
def power255 (low : Int) (high : Int) : (Nat → Int) := (L [low, 255, 255, 255, 255, 255, 255, 255, 255, 255, 255, 255, 255, 255, 255, 255, 255, 255, 255, 255, 255, 255, 255, 255, 255, 255, 255, 255, 255, 255, 255, high])
theorem power255_t (low : Int) (high : Int) : awp Try.prog o47 noG 300 (body Try.f90) (ends Try.prog Try.f90 fun v _ => okV (V.ints .u8 32 (power255 low high)) v) ⟨[(V.int .u8 low), (V.int .u8 high)] ++ List.replicate 16 V.un, []⟩ = ((V.ints .u8 32 (power255 low high)).den z0 = (V.ints .u8 32 (power255 low high)).den z0) := by kernel_rfl
theorem power255_a (low : Int) (high : Int) : awp Try.prog o47 noG 300 (body Try.f90) (ends Try.prog Try.f90 fun v _ => okV (V.ints .u8 32 (power255 low high)) v) ⟨[(V.int .u8 low), (V.int .u8 high)] ++ List.replicate 16 V.un, []⟩ := by rw [power255_t]
def g90 : List V → Option (Bool × V) := fun | [.int .u8 low, .int .u8 high] => some (true, (V.ints .u8 32 (power255 low high))) | _ => none
theorem power255_p (low : Int) (high : Int) : (∀ μ μ', V.den μ' (V.ints .u8 32 (power255 low high)) = V.den μ (V.ints .u8 32 (power255 low high))) ∧ ∀ μ w, PureAt Try.prog 90 (([(V.int .u8 low), (V.int .u8 high)] : List V).map (V.den μ)).toArray (V.den μ (V.ints .u8 32 (power255 low high))) w :=
  pure_ok (F := o47) (N := 300) (fn := Try.f90) (args := [(V.int .u8 low), (V.int .u8 high)]) (r := (V.ints .u8 32 (power255 low high))) (n := 16) hM o47_ok (noG_ok _) Try.func90 (by kernel_rfl) (by kernel_rfl) (by kernel_rfl) (by kernel_rfl) (power255_a low high) (by kernel_rfl)
theorem g90_ok (vs : List V) (v : V) (h : g90 vs = some (true, v)) : (∀ μ μ', v.den μ' = v.den μ) ∧ ∀ μ w, PureAt Try.prog 90 (vs.map (V.den μ)).toArray (v.den μ) w := by
  unfold g90 at h
  split at h
  · simp only [Option.some.injEq, Prod.mk.injEq, true_and] at h
    subst h
    exact power255_p _ _
  · simp at h
def o90 : Orc := ext 90 g90 o47
theorem o90_ok : OrcOK Try.prog o90 := ext_ok o47_ok g90_ok

/- fareboxref05.Power -/
def rPower (low : Int) (high : Int) : (Nat → Int) := (L [low, 255, 255, 255, 255, 255, 255, 255, 255, 255, 255, 255, 255, 255, 255, 255, 255, 255, 255, 255, 255, 255, 255, 255, 255, 255, 255, 255, 255, 255, 255, high])
theorem rPower_t (low : Int) (high : Int) : awp Try.prog o90 noG 300 (body Try.f91) (ends Try.prog Try.f91 fun v _ => okV (V.ints .u8 32 (rPower low high)) v) ⟨[(V.int .u8 low), (V.int .u8 high)] ++ List.replicate 16 V.un, []⟩ = ((V.ints .u8 32 (rPower low high)).den z0 = (V.ints .u8 32 (rPower low high)).den z0) := by kernel_rfl
theorem rPower_a (low : Int) (high : Int) : awp Try.prog o90 noG 300 (body Try.f91) (ends Try.prog Try.f91 fun v _ => okV (V.ints .u8 32 (rPower low high)) v) ⟨[(V.int .u8 low), (V.int .u8 high)] ++ List.replicate 16 V.un, []⟩ := by rw [rPower_t]
def g91 : List V → Option (Bool × V) := fun | [.int .u8 low, .int .u8 high] => some (true, (V.ints .u8 32 (rPower low high))) | _ => none
theorem rPower_p (low : Int) (high : Int) : (∀ μ μ', V.den μ' (V.ints .u8 32 (rPower low high)) = V.den μ (V.ints .u8 32 (rPower low high))) ∧ ∀ μ w, PureAt Try.prog 91 (([(V.int .u8 low), (V.int .u8 high)] : List V).map (V.den μ)).toArray (V.den μ (V.ints .u8 32 (rPower low high))) w :=
  pure_ok (F := o90) (N := 300) (fn := Try.f91) (args := [(V.int .u8 low), (V.int .u8 high)]) (r := (V.ints .u8 32 (rPower low high))) (n := 16) hM o90_ok (noG_ok _) Try.func91 (by kernel_rfl) (by kernel_rfl) (by kernel_rfl) (by kernel_rfl) (rPower_a low high) (by kernel_rfl)
theorem g91_ok (vs : List V) (v : V) (h : g91 vs = some (true, v)) : (∀ μ μ', v.den μ' = v.den μ) ∧ ∀ μ w, PureAt Try.prog 91 (vs.map (V.den μ)).toArray (v.den μ) w := by
  unfold g91 at h
  split at h
  · simp only [Option.some.injEq, Prod.mk.injEq, true_and] at h
    subst h
    exact rPower_p _ _
  · simp at h
def o91 : Orc := ext 91 g91 o90
theorem o91_ok : OrcOK Try.prog o91 := ext_ok o90_ok g91_ok

/- field.Invert -/
def invertF (x : (Nat → Int)) : (Nat → Int) := (powF x (power255 235 127))
theorem invertF_t (x : (Nat → Int)) : awp Try.prog o91 noG 300 (body Try.f48) (ends Try.prog Try.f48 fun v _ => okV (V.ints .u64 5 (invertF x)) v) ⟨[(V.ints .u64 5 x)] ++ List.replicate 5 V.un, []⟩ = ((V.ints .u64 5 (invertF x)).den z0 = (V.ints .u64 5 (invertF x)).den z0) := by kernel_rfl
theorem invertF_a (x : (Nat → Int)) : awp Try.prog o91 noG 300 (body Try.f48) (ends Try.prog Try.f48 fun v _ => okV (V.ints .u64 5 (invertF x)) v) ⟨[(V.ints .u64 5 x)] ++ List.replicate 5 V.un, []⟩ := by rw [invertF_t]
def g48 : List V → Option (Bool × V) := fun | [.ints .u64 5 x] => some (true, (V.ints .u64 5 (invertF x))) | _ => none
theorem invertF_p (x : (Nat → Int)) : (∀ μ μ', V.den μ' (V.ints .u64 5 (invertF x)) = V.den μ (V.ints .u64 5 (invertF x))) ∧ ∀ μ w, PureAt Try.prog 48 (([(V.ints .u64 5 x)] : List V).map (V.den μ)).toArray (V.den μ (V.ints .u64 5 (invertF x))) w :=
  pure_ok (F := o91) (N := 300) (fn := Try.f48) (args := [(V.ints .u64 5 x)]) (r := (V.ints .u64 5 (invertF x))) (n := 5) hM o91_ok (noG_ok _) Try.func48 (by kernel_rfl) (by kernel_rfl) (by kernel_rfl) (by kernel_rfl) (invertF_a x) (by kernel_rfl)
theorem g48_ok (vs : List V) (v : V) (h : g48 vs = some (true, v)) : (∀ μ μ', v.den μ' = v.den μ) ∧ ∀ μ w, PureAt Try.prog 48 (vs.map (V.den μ)).toArray (v.den μ) w := by
  unfold g48 at h
  split at h
  · simp only [Option.some.injEq, Prod.mk.injEq, true_and] at h
    subst h
    exact invertF_p _
  · simp at h
def o48 : Orc := ext 48 g48 o91
theorem o48_ok : OrcOK Try.prog o48 := ext_ok o91_ok g48_ok

/- fareboxref05.Invert -/
def rInvert (a : (Nat → Int)) : (Nat → Int) := (rPow a (rPower 235 127))
set_option maxRecDepth 100000 in
theorem rInvert_t (a : (Nat → Int)) : awp Try.prog o48 noG 300 (body Try.f49) (ends Try.prog Try.f49 fun v _ => okV (V.ints .u64 10 (rInvert a)) v) ⟨[(V.ints .u64 10 a)] ++ List.replicate 5 V.un, []⟩ = ((V.ints .u64 10 (rInvert a)).den z0 = (V.ints .u64 10 (rInvert a)).den z0) := by kernel_rfl
theorem rInvert_a (a : (Nat → Int)) : awp Try.prog o48 noG 300 (body Try.f49) (ends Try.prog Try.f49 fun v _ => okV (V.ints .u64 10 (rInvert a)) v) ⟨[(V.ints .u64 10 a)] ++ List.replicate 5 V.un, []⟩ := by rw [rInvert_t]
def g49 : List V → Option (Bool × V) := fun | [.ints .u64 10 a] => some (true, (V.ints .u64 10 (rInvert a))) | _ => none
theorem rInvert_p (a : (Nat → Int)) : (∀ μ μ', V.den μ' (V.ints .u64 10 (rInvert a)) = V.den μ (V.ints .u64 10 (rInvert a))) ∧ ∀ μ w, PureAt Try.prog 49 (([(V.ints .u64 10 a)] : List V).map (V.den μ)).toArray (V.den μ (V.ints .u64 10 (rInvert a))) w :=
  pure_ok (F := o48) (N := 300) (fn := Try.f49) (args := [(V.ints .u64 10 a)]) (r := (V.ints .u64 10 (rInvert a))) (n := 5) hM o48_ok (noG_ok _) Try.func49 (by kernel_rfl) (by kernel_rfl) (by kernel_rfl) (by kernel_rfl) (rInvert_a a) (by kernel_rfl)
theorem g49_ok (vs : List V) (v : V) (h : g49 vs = some (true, v)) : (∀ μ μ', v.den μ' = v.den μ) ∧ ∀ μ w, PureAt Try.prog 49 (vs.map (V.den μ)).toArray (v.den μ) w := by
  unfold g49 at h
  split at h
  · simp only [Option.some.injEq, Prod.mk.injEq, true_and] at h
    subst h
    exact rInvert_p _
  · simp at h
def o49 : Orc := ext 49 g49 o48
theorem o49_ok : OrcOK Try.prog o49 := ext_ok o48_ok g49_ok

theorem isEO_ex : ∃ f : (Nat → Int) → (Nat → Int) → Bool, f = isE := ⟨_, rfl⟩
/-- isE, by a name that is not unfolded. -/
noncomputable def isEO : (Nat → Int) → (Nat → Int) → Bool := Classical.choose isEO_ex
theorem isEO_eq : isEO = isE := Classical.choose_spec isEO_ex
noncomputable def g27O : List V → Option (Bool × V) := fun | [.ints .u64 5 x, .ints .u64 10 a] => some (true, (V.bool (isEO x a))) | _ => none
theorem g27O_ok (vs : List V) (v : V) (h : g27O vs = some (true, v)) : (∀ μ μ', v.den μ' = v.den μ) ∧ ∀ μ w, PureAt Try.prog 27 (vs.map (V.den μ)).toArray (v.den μ) w := by
  unfold g27O at h
  split at h
  · simp only [Option.some.injEq, Prod.mk.injEq, true_and] at h
    subst h
    rw [isEO_eq]
    exact isE_p _ _
  · simp at h
noncomputable def o27O : Orc := ext 27 g27O o49
theorem o27O_ok : OrcOK Try.prog o27O := ext_ok o49_ok g27O_ok

theorem powFO_ex : ∃ f : (Nat → Int) → (Nat → Int) → (Nat → Int), f = powF := ⟨_, rfl⟩
/-- powF, by a name that is not unfolded. -/
noncomputable def powFO : (Nat → Int) → (Nat → Int) → (Nat → Int) := Classical.choose powFO_ex
theorem powFO_eq : powFO = powF := Classical.choose_spec powFO_ex
noncomputable def g46O : List V → Option (Bool × V) := fun | [.ints .u64 5 x, .ints .u8 32 e] => some (true, (V.ints .u64 5 (powFO x e))) | _ => none
theorem g46O_ok (vs : List V) (v : V) (h : g46O vs = some (true, v)) : (∀ μ μ', v.den μ' = v.den μ) ∧ ∀ μ w, PureAt Try.prog 46 (vs.map (V.den μ)).toArray (v.den μ) w := by
  unfold g46O at h
  split at h
  · simp only [Option.some.injEq, Prod.mk.injEq, true_and] at h
    subst h
    rw [powFO_eq]
    exact powF_p _ _
  · simp at h
noncomputable def o46O : Orc := ext 46 g46O o27O
theorem o46O_ok : OrcOK Try.prog o46O := ext_ok o27O_ok g46O_ok

theorem rPowO_ex : ∃ f : (Nat → Int) → (Nat → Int) → (Nat → Int), f = rPow := ⟨_, rfl⟩
/-- rPow, by a name that is not unfolded. -/
noncomputable def rPowO : (Nat → Int) → (Nat → Int) → (Nat → Int) := Classical.choose rPowO_ex
theorem rPowO_eq : rPowO = rPow := Classical.choose_spec rPowO_ex
noncomputable def g47O : List V → Option (Bool × V) := fun | [.ints .u64 10 a0, .ints .u8 32 e] => some (true, (V.ints .u64 10 (rPowO a0 e))) | _ => none
theorem g47O_ok (vs : List V) (v : V) (h : g47O vs = some (true, v)) : (∀ μ μ', v.den μ' = v.den μ) ∧ ∀ μ w, PureAt Try.prog 47 (vs.map (V.den μ)).toArray (v.den μ) w := by
  unfold g47O at h
  split at h
  · simp only [Option.some.injEq, Prod.mk.injEq, true_and] at h
    subst h
    rw [rPowO_eq]
    exact rPow_p _ _
  · simp at h
noncomputable def o47O : Orc := ext 47 g47O o46O
theorem o47O_ok : OrcOK Try.prog o47O := ext_ok o46O_ok g47O_ok

theorem invertFO_ex : ∃ f : (Nat → Int) → (Nat → Int), f = invertF := ⟨_, rfl⟩
/-- invertF, by a name that is not unfolded. -/
noncomputable def invertFO : (Nat → Int) → (Nat → Int) := Classical.choose invertFO_ex
theorem invertFO_eq : invertFO = invertF := Classical.choose_spec invertFO_ex
noncomputable def g48O : List V → Option (Bool × V) := fun | [.ints .u64 5 x] => some (true, (V.ints .u64 5 (invertFO x))) | _ => none
theorem g48O_ok (vs : List V) (v : V) (h : g48O vs = some (true, v)) : (∀ μ μ', v.den μ' = v.den μ) ∧ ∀ μ w, PureAt Try.prog 48 (vs.map (V.den μ)).toArray (v.den μ) w := by
  unfold g48O at h
  split at h
  · simp only [Option.some.injEq, Prod.mk.injEq, true_and] at h
    subst h
    rw [invertFO_eq]
    exact invertF_p _
  · simp at h
noncomputable def o48O : Orc := ext 48 g48O o47O
theorem o48O_ok : OrcOK Try.prog o48O := ext_ok o47O_ok g48O_ok

theorem rInvertO_ex : ∃ f : (Nat → Int) → (Nat → Int), f = rInvert := ⟨_, rfl⟩
/-- rInvert, by a name that is not unfolded. -/
noncomputable def rInvertO : (Nat → Int) → (Nat → Int) := Classical.choose rInvertO_ex
theorem rInvertO_eq : rInvertO = rInvert := Classical.choose_spec rInvertO_ex
noncomputable def g49O : List V → Option (Bool × V) := fun | [.ints .u64 10 a] => some (true, (V.ints .u64 10 (rInvertO a))) | _ => none
theorem g49O_ok (vs : List V) (v : V) (h : g49O vs = some (true, v)) : (∀ μ μ', v.den μ' = v.den μ) ∧ ∀ μ w, PureAt Try.prog 49 (vs.map (V.den μ)).toArray (v.den μ) w := by
  unfold g49O at h
  split at h
  · simp only [Option.some.injEq, Prod.mk.injEq, true_and] at h
    subst h
    rw [rInvertO_eq]
    exact rInvert_p _
  · simp at h
noncomputable def o49O : Orc := ext 49 g49O o48O
theorem o49O_ok : OrcOK Try.prog o49O := ext_ok o48O_ok g49O_ok

theorem rOfO_ex : ∃ f : (Nat → Int) → (Nat → Int), f = rOf := ⟨_, rfl⟩
/-- rOf, by a name that is not unfolded. -/
noncomputable def rOfO : (Nat → Int) → (Nat → Int) := Classical.choose rOfO_ex
theorem rOfO_eq : rOfO = rOf := Classical.choose_spec rOfO_ex
noncomputable def g21O : List V → Option (Bool × V) := fun | [.ints .u64 5 x] => some (true, (V.ints .u64 10 (rOfO x))) | _ => none
theorem g21O_ok (vs : List V) (v : V) (h : g21O vs = some (true, v)) : (∀ μ μ', v.den μ' = v.den μ) ∧ ∀ μ w, PureAt Try.prog 21 (vs.map (V.den μ)).toArray (v.den μ) w := by
  unfold g21O at h
  split at h
  · simp only [Option.some.injEq, Prod.mk.injEq, true_and] at h
    subst h
    rw [rOfO_eq]
    exact rOf_p _
  · simp at h
noncomputable def o21O : Orc := ext 21 g21O o49O
theorem o21O_ok : OrcOK Try.prog o21O := ext_ok o49O_ok g21O_ok
end Go.Proofs.Ytbnclikjbnfodaa

namespace Go.Proofs.Ytbnclikjbnfodaa
open Go.Ev
theorem addFO_ex : ∃ f : (Nat → Int) → (Nat → Int) → (Nat → Int), f = addF := ⟨_, rfl⟩
/-- addF, by a name that is not unfolded. -/
noncomputable def addFO : (Nat → Int) → (Nat → Int) → (Nat → Int) := Classical.choose addFO_ex
theorem addFO_eq : addFO = addF := Classical.choose_spec addFO_ex
noncomputable def g29O : List V → Option (Bool × V) := fun | [.ints .u64 5 x, .ints .u64 5 y] => some (true, (V.ints .u64 5 (addFO x y))) | _ => none
theorem g29O_ok (vs : List V) (v : V) (h : g29O vs = some (true, v)) : (∀ μ μ', v.den μ' = v.den μ) ∧ ∀ μ w, PureAt Try.prog 29 (vs.map (V.den μ)).toArray (v.den μ) w := by
  unfold g29O at h
  split at h
  · simp only [Option.some.injEq, Prod.mk.injEq, true_and] at h
    subst h
    rw [addFO_eq]
    exact addF_p _ _
  · simp at h
noncomputable def o29O : Orc := ext 29 g29O o21O
theorem o29O_ok : OrcOK Try.prog o29O := ext_ok o21O_ok g29O_ok

theorem subFO_ex : ∃ f : (Nat → Int) → (Nat → Int) → (Nat → Int), f = subF := ⟨_, rfl⟩
/-- subF, by a name that is not unfolded. -/
noncomputable def subFO : (Nat → Int) → (Nat → Int) → (Nat → Int) := Classical.choose subFO_ex
theorem subFO_eq : subFO = subF := Classical.choose_spec subFO_ex
noncomputable def g31O : List V → Option (Bool × V) := fun | [.ints .u64 5 x, .ints .u64 5 y] => some (true, (V.ints .u64 5 (subFO x y))) | _ => none
theorem g31O_ok (vs : List V) (v : V) (h : g31O vs = some (true, v)) : (∀ μ μ', v.den μ' = v.den μ) ∧ ∀ μ w, PureAt Try.prog 31 (vs.map (V.den μ)).toArray (v.den μ) w := by
  unfold g31O at h
  split at h
  · simp only [Option.some.injEq, Prod.mk.injEq, true_and] at h
    subst h
    rw [subFO_eq]
    exact subF_p _ _
  · simp at h
noncomputable def o31O : Orc := ext 31 g31O o29O
theorem o31O_ok : OrcOK Try.prog o31O := ext_ok o29O_ok g31O_ok

theorem negFO_ex : ∃ f : (Nat → Int) → (Nat → Int), f = negF := ⟨_, rfl⟩
/-- negF, by a name that is not unfolded. -/
noncomputable def negFO : (Nat → Int) → (Nat → Int) := Classical.choose negFO_ex
theorem negFO_eq : negFO = negF := Classical.choose_spec negFO_ex
noncomputable def g33O : List V → Option (Bool × V) := fun | [.ints .u64 5 x] => some (true, (V.ints .u64 5 (negFO x))) | _ => none
theorem g33O_ok (vs : List V) (v : V) (h : g33O vs = some (true, v)) : (∀ μ μ', v.den μ' = v.den μ) ∧ ∀ μ w, PureAt Try.prog 33 (vs.map (V.den μ)).toArray (v.den μ) w := by
  unfold g33O at h
  split at h
  · simp only [Option.some.injEq, Prod.mk.injEq, true_and] at h
    subst h
    rw [negFO_eq]
    exact negF_p _
  · simp at h
noncomputable def o33O : Orc := ext 33 g33O o31O
theorem o33O_ok : OrcOK Try.prog o33O := ext_ok o31O_ok g33O_ok

theorem smallFO_ex : ∃ f : Int → (Nat → Int), f = smallF := ⟨_, rfl⟩
/-- smallF, by a name that is not unfolded. -/
noncomputable def smallFO : Int → (Nat → Int) := Classical.choose smallFO_ex
theorem smallFO_eq : smallFO = smallF := Classical.choose_spec smallFO_ex
noncomputable def g41O : List V → Option (Bool × V) := fun | [.int .u64 n] => some (true, (V.ints .u64 5 (smallFO n))) | _ => none
theorem g41O_ok (vs : List V) (v : V) (h : g41O vs = some (true, v)) : (∀ μ μ', v.den μ' = v.den μ) ∧ ∀ μ w, PureAt Try.prog 41 (vs.map (V.den μ)).toArray (v.den μ) w := by
  unfold g41O at h
  split at h
  · simp only [Option.some.injEq, Prod.mk.injEq, true_and] at h
    subst h
    rw [smallFO_eq]
    exact smallF_p _
  · simp at h
noncomputable def o41O : Orc := ext 41 g41O o33O
theorem o41O_ok : OrcOK Try.prog o41O := ext_ok o33O_ok g41O_ok

theorem mulFO_ex : ∃ f : (Nat → Int) → (Nat → Int) → (Nat → Int), f = mulF := ⟨_, rfl⟩
/-- mulF, by a name that is not unfolded. -/
noncomputable def mulFO : (Nat → Int) → (Nat → Int) → (Nat → Int) := Classical.choose mulFO_ex
theorem mulFO_eq : mulFO = mulF := Classical.choose_spec mulFO_ex
noncomputable def g43O : List V → Option (Bool × V) := fun | [.ints .u64 5 x, .ints .u64 5 y] => some (true, (V.ints .u64 5 (mulFO x y))) | _ => none
theorem g43O_ok (vs : List V) (v : V) (h : g43O vs = some (true, v)) : (∀ μ μ', v.den μ' = v.den μ) ∧ ∀ μ w, PureAt Try.prog 43 (vs.map (V.den μ)).toArray (v.den μ) w := by
  unfold g43O at h
  split at h
  · simp only [Option.some.injEq, Prod.mk.injEq, true_and] at h
    subst h
    rw [mulFO_eq]
    exact mulF_p _ _
  · simp at h
noncomputable def o43O : Orc := ext 43 g43O o41O
theorem o43O_ok : OrcOK Try.prog o43O := ext_ok o41O_ok g43O_ok

theorem squareFO_ex : ∃ f : (Nat → Int) → (Nat → Int), f = squareF := ⟨_, rfl⟩
/-- squareF, by a name that is not unfolded. -/
noncomputable def squareFO : (Nat → Int) → (Nat → Int) := Classical.choose squareFO_ex
theorem squareFO_eq : squareFO = squareF := Classical.choose_spec squareFO_ex
noncomputable def g45O : List V → Option (Bool × V) := fun | [.ints .u64 5 x] => some (true, (V.ints .u64 5 (squareFO x))) | _ => none
theorem g45O_ok (vs : List V) (v : V) (h : g45O vs = some (true, v)) : (∀ μ μ', v.den μ' = v.den μ) ∧ ∀ μ w, PureAt Try.prog 45 (vs.map (V.den μ)).toArray (v.den μ) w := by
  unfold g45O at h
  split at h
  · simp only [Option.some.injEq, Prod.mk.injEq, true_and] at h
    subst h
    rw [squareFO_eq]
    exact squareF_p _
  · simp at h
noncomputable def o45O : Orc := ext 45 g45O o43O
theorem o45O_ok : OrcOK Try.prog o45O := ext_ok o43O_ok g45O_ok

theorem selectFO_ex : ∃ f : Bool → (Nat → Int) → (Nat → Int) → (Nat → Int), f = selectF := ⟨_, rfl⟩
/-- selectF, by a name that is not unfolded. -/
noncomputable def selectFO : Bool → (Nat → Int) → (Nat → Int) → (Nat → Int) := Classical.choose selectFO_ex
theorem selectFO_eq : selectFO = selectF := Classical.choose_spec selectFO_ex
noncomputable def g28O : List V → Option (Bool × V) := fun | [.bool c, .ints .u64 5 x, .ints .u64 5 y] => some (true, (V.ints .u64 5 (selectFO c x y))) | _ => none
theorem g28O_ok (vs : List V) (v : V) (h : g28O vs = some (true, v)) : (∀ μ μ', v.den μ' = v.den μ) ∧ ∀ μ w, PureAt Try.prog 28 (vs.map (V.den μ)).toArray (v.den μ) w := by
  unfold g28O at h
  split at h
  · simp only [Option.some.injEq, Prod.mk.injEq, true_and] at h
    subst h
    rw [selectFO_eq]
    exact selectF_p _ _ _
  · simp at h
noncomputable def o28O : Orc := ext 28 g28O o45O
theorem o28O_ok : OrcOK Try.prog o28O := ext_ok o45O_ok g28O_ok

theorem isZeroFO_ex : ∃ f : (Nat → Int) → Bool, f = isZeroF := ⟨_, rfl⟩
/-- isZeroF, by a name that is not unfolded. -/
noncomputable def isZeroFO : (Nat → Int) → Bool := Classical.choose isZeroFO_ex
theorem isZeroFO_eq : isZeroFO = isZeroF := Classical.choose_spec isZeroFO_ex
noncomputable def g23O : List V → Option (Bool × V) := fun | [.ints .u64 5 x] => some (true, (V.bool (isZeroFO x))) | _ => none
theorem g23O_ok (vs : List V) (v : V) (h : g23O vs = some (true, v)) : (∀ μ μ', v.den μ' = v.den μ) ∧ ∀ μ w, PureAt Try.prog 23 (vs.map (V.den μ)).toArray (v.den μ) w := by
  unfold g23O at h
  split at h
  · simp only [Option.some.injEq, Prod.mk.injEq, true_and] at h
    subst h
    rw [isZeroFO_eq]
    exact isZeroF_p _
  · simp at h
noncomputable def o23O : Orc := ext 23 g23O o28O
theorem o23O_ok : OrcOK Try.prog o23O := ext_ok o28O_ok g23O_ok

theorem isOddFO_ex : ∃ f : (Nat → Int) → Bool, f = isOddF := ⟨_, rfl⟩
/-- isOddF, by a name that is not unfolded. -/
noncomputable def isOddFO : (Nat → Int) → Bool := Classical.choose isOddFO_ex
theorem isOddFO_eq : isOddFO = isOddF := Classical.choose_spec isOddFO_ex
noncomputable def g25O : List V → Option (Bool × V) := fun | [.ints .u64 5 x] => some (true, (V.bool (isOddFO x))) | _ => none
theorem g25O_ok (vs : List V) (v : V) (h : g25O vs = some (true, v)) : (∀ μ μ', v.den μ' = v.den μ) ∧ ∀ μ w, PureAt Try.prog 25 (vs.map (V.den μ)).toArray (v.den μ) w := by
  unfold g25O at h
  split at h
  · simp only [Option.some.injEq, Prod.mk.injEq, true_and] at h
    subst h
    rw [isOddFO_eq]
    exact isOddF_p _
  · simp at h
noncomputable def o25O : Orc := ext 25 g25O o23O
theorem o25O_ok : OrcOK Try.prog o25O := ext_ok o23O_ok g25O_ok

theorem equalFO_ex : ∃ f : (Nat → Int) → (Nat → Int) → Bool, f = equalF := ⟨_, rfl⟩
/-- equalF, by a name that is not unfolded. -/
noncomputable def equalFO : (Nat → Int) → (Nat → Int) → Bool := Classical.choose equalFO_ex
theorem equalFO_eq : equalFO = equalF := Classical.choose_spec equalFO_ex
noncomputable def g22O : List V → Option (Bool × V) := fun | [.ints .u64 5 x, .ints .u64 5 y] => some (true, (V.bool (equalFO x y))) | _ => none
theorem g22O_ok (vs : List V) (v : V) (h : g22O vs = some (true, v)) : (∀ μ μ', v.den μ' = v.den μ) ∧ ∀ μ w, PureAt Try.prog 22 (vs.map (V.den μ)).toArray (v.den μ) w := by
  unfold g22O at h
  split at h
  · simp only [Option.some.injEq, Prod.mk.injEq, true_and] at h
    subst h
    rw [equalFO_eq]
    exact equalF_p _ _
  · simp at h
noncomputable def o22O : Orc := ext 22 g22O o25O
theorem o22O_ok : OrcOK Try.prog o22O := ext_ok o25O_ok g22O_ok
end Go.Proofs.Ytbnclikjbnfodaa

namespace Go.Proofs.Ytbnclikjbnfodaa
open Go.Ev
/- fareboxlaw05.counts -/
noncomputable def countsB : Bool := (cond (!(eqN 5 (addFO (smallFO 2) (smallFO 3)) (L [5, 0, 0, 0, 0]))) false (cond (!(eqN 5 (mulFO (smallFO 2) (smallFO 3)) (L [6, 0, 0, 0, 0]))) false (cond (eqN 5 (smallFO 1) (L [1, 0, 0, 0, 0])) (cond (isZeroFO (smallFO 0)) (!(isZeroFO (smallFO 3))) false) false)))
theorem countsB_t : awp Try.prog o22O noG 300 (body Try.f50) (ends Try.prog Try.f50 fun v _ => okV (V.bool countsB) v) ⟨[] ++ List.replicate 29 V.un, []⟩ = (mB (!(eqN 5 (addFO (smallFO 2) (smallFO 3)) (L [5, 0, 0, 0, 0]))) ((V.bool false).den z0 = (V.bool countsB).den z0) (mB (!(eqN 5 (mulFO (smallFO 2) (smallFO 3)) (L [6, 0, 0, 0, 0]))) ((V.bool false).den z0 = (V.bool countsB).den z0) (mB (eqN 5 (smallFO 1) (L [1, 0, 0, 0, 0])) (mB (isZeroFO (smallFO 0)) ((V.bool (!(isZeroFO (smallFO 3)))).den z0 = (V.bool countsB).den z0) ((V.bool false).den z0 = (V.bool countsB).den z0)) ((V.bool false).den z0 = (V.bool countsB).den z0)))) := by kernel_rfl
theorem countsB_a : awp Try.prog o22O noG 300 (body Try.f50) (ends Try.prog Try.f50 fun v _ => okV (V.bool countsB) v) ⟨[] ++ List.replicate 29 V.un, []⟩ := by
  rw [countsB_t]
  refine mBt (fun h1 => ?_) (fun h1 => ?_)
  · simp only [countsB, h1, cond_true]
  · refine mBt (fun h2 => ?_) (fun h2 => ?_)
    · simp only [countsB, h1, h2, cond_true, cond_false]
    · refine mBt (fun h3 => ?_) (fun h3 => ?_)
      · refine mBt (fun h4 => ?_) (fun h4 => ?_)
        · simp only [countsB, h1, h2, h3, h4, cond_true, cond_false]
        · simp only [countsB, h1, h2, h3, h4, cond_true, cond_false]
      · simp only [countsB, h1, h2, h3, cond_false]
noncomputable def g50 : List V → Option (Bool × V) := fun | [] => some (true, (V.bool countsB)) | _ => none
theorem countsB_p : (∀ μ μ', V.den μ' (V.bool countsB) = V.den μ (V.bool countsB)) ∧ ∀ μ w, PureAt Try.prog 50 (([] : List V).map (V.den μ)).toArray (V.den μ (V.bool countsB)) w :=
  pure_ok (F := o22O) (N := 300) (fn := Try.f50) (args := []) (r := (V.bool countsB)) (n := 29) hM o22O_ok (noG_ok _) Try.func50 (by kernel_rfl) (by kernel_rfl) (by kernel_rfl) (by kernel_rfl) (countsB_a) (by kernel_rfl)
theorem g50_ok (vs : List V) (v : V) (h : g50 vs = some (true, v)) : (∀ μ μ', v.den μ' = v.den μ) ∧ ∀ μ w, PureAt Try.prog 50 (vs.map (V.den μ)).toArray (v.den μ) w := by
  unfold g50 at h
  split at h
  · simp only [Option.some.injEq, Prod.mk.injEq, true_and] at h
    subst h
    exact countsB_p
  · simp at h
noncomputable def o50 : Orc := ext 50 g50 o22O
theorem o50_ok : OrcOK Try.prog o50 := ext_ok o22O_ok g50_ok

/- fareboxlaw05.FieldRing -/
noncomputable def lawRing (x : (Nat → Int)) (y : (Nat → Int)) (z : (Nat → Int)) : Bool := (cond (!(eqN 5 (addFO x y) (addFO y x))) false (cond (!(eqN 5 (mulFO x y) (mulFO y x))) false (cond (!(eqN 5 (addFO (addFO x y) z) (addFO x (addFO y z)))) false (cond (!(eqN 5 (mulFO (mulFO x y) z) (mulFO x (mulFO y z)))) false (cond (!(eqN 5 (mulFO x (addFO y z)) (addFO (mulFO x y) (mulFO x z)))) false (cond (!(eqN 5 (addFO x (smallFO 0)) (selectFO true x y))) false (cond (!(eqN 5 (mulFO x (smallFO 1)) (selectFO true x y))) false (cond (!(eqN 5 (mulFO x (smallFO 0)) (smallFO 0))) false (cond (!(eqN 5 (addFO x (negFO x)) (smallFO 0))) false (cond (eqN 5 (subFO x y) (addFO x (negFO y))) (cond (eqN 5 (squareFO x) (mulFO x x)) (cond (eqN 5 (negFO (negFO x)) (selectFO true x y)) countsB false) false) false))))))))))
theorem lawRing_t (x : (Nat → Int)) (y : (Nat → Int)) (z : (Nat → Int)) : awp Try.prog o50 noG 300 (body Try.f8) (ends Try.prog Try.f8 fun v _ => okV (V.bool (lawRing x y z)) v) ⟨[(V.ints .u64 5 x), (V.ints .u64 5 y), (V.ints .u64 5 z)] ++ List.replicate 118 V.un, []⟩ = (mB (!(eqN 5 (addFO x y) (addFO y x))) ((V.bool false).den z0 = (V.bool (lawRing x y z)).den z0) (mB (!(eqN 5 (mulFO x y) (mulFO y x))) ((V.bool false).den z0 = (V.bool (lawRing x y z)).den z0) (mB (!(eqN 5 (addFO (addFO x y) z) (addFO x (addFO y z)))) ((V.bool false).den z0 = (V.bool (lawRing x y z)).den z0) (mB (!(eqN 5 (mulFO (mulFO x y) z) (mulFO x (mulFO y z)))) ((V.bool false).den z0 = (V.bool (lawRing x y z)).den z0) (mB (!(eqN 5 (mulFO x (addFO y z)) (addFO (mulFO x y) (mulFO x z)))) ((V.bool false).den z0 = (V.bool (lawRing x y z)).den z0) (mB (!(eqN 5 (addFO x (smallFO 0)) (selectFO true x y))) ((V.bool false).den z0 = (V.bool (lawRing x y z)).den z0) (mB (!(eqN 5 (mulFO x (smallFO 1)) (selectFO true x y))) ((V.bool false).den z0 = (V.bool (lawRing x y z)).den z0) (mB (!(eqN 5 (mulFO x (smallFO 0)) (smallFO 0))) ((V.bool false).den z0 = (V.bool (lawRing x y z)).den z0) (mB (!(eqN 5 (addFO x (negFO x)) (smallFO 0))) ((V.bool false).den z0 = (V.bool (lawRing x y z)).den z0) (mB (eqN 5 (subFO x y) (addFO x (negFO y))) (mB (eqN 5 (squareFO x) (mulFO x x)) (mB (eqN 5 (negFO (negFO x)) (selectFO true x y)) ((V.bool countsB).den z0 = (V.bool (lawRing x y z)).den z0) ((V.bool false).den z0 = (V.bool (lawRing x y z)).den z0)) ((V.bool false).den z0 = (V.bool (lawRing x y z)).den z0)) ((V.bool false).den z0 = (V.bool (lawRing x y z)).den z0))))))))))) := by kernel_rfl
theorem lawRing_a (x : (Nat → Int)) (y : (Nat → Int)) (z : (Nat → Int)) : awp Try.prog o50 noG 300 (body Try.f8) (ends Try.prog Try.f8 fun v _ => okV (V.bool (lawRing x y z)) v) ⟨[(V.ints .u64 5 x), (V.ints .u64 5 y), (V.ints .u64 5 z)] ++ List.replicate 118 V.un, []⟩ := by
  rw [lawRing_t]
  refine mBt (fun h1 => ?_) (fun h1 => ?_)
  · simp only [lawRing, h1, cond_true]
  · refine mBt (fun h2 => ?_) (fun h2 => ?_)
    · simp only [lawRing, h1, h2, cond_true, cond_false]
    · refine mBt (fun h3 => ?_) (fun h3 => ?_)
      · simp only [lawRing, h1, h2, h3, cond_true, cond_false]
      · refine mBt (fun h4 => ?_) (fun h4 => ?_)
        · simp only [lawRing, h1, h2, h3, h4, cond_true, cond_false]
        · refine mBt (fun h5 => ?_) (fun h5 => ?_)
          · simp only [lawRing, h1, h2, h3, h4, h5, cond_true, cond_false]
          · refine mBt (fun h6 => ?_) (fun h6 => ?_)
            · simp only [lawRing, h1, h2, h3, h4, h5, h6, cond_true, cond_false]
            · refine mBt (fun h7 => ?_) (fun h7 => ?_)
              · simp only [lawRing, h1, h2, h3, h4, h5, h6, h7, cond_true, cond_false]
              · refine mBt (fun h8 => ?_) (fun h8 => ?_)
                · simp only [lawRing, h1, h2, h3, h4, h5, h6, h7, h8, cond_true, cond_false]
                · refine mBt (fun h9 => ?_) (fun h9 => ?_)
                  · simp only [lawRing, h1, h2, h3, h4, h5, h6, h7, h8, h9, cond_true, cond_false]
                  · refine mBt (fun h10 => ?_) (fun h10 => ?_)
                    · refine mBt (fun h11 => ?_) (fun h11 => ?_)
                      · refine mBt (fun h12 => ?_) (fun h12 => ?_)
                        · simp only [lawRing, h1, h2, h3, h4, h5, h6, h7, h8, h9, h10, h11, h12, cond_true, cond_false]
                        · simp only [lawRing, h1, h2, h3, h4, h5, h6, h7, h8, h9, h10, h11, h12, cond_true, cond_false]
                      · simp only [lawRing, h1, h2, h3, h4, h5, h6, h7, h8, h9, h10, h11, cond_true, cond_false]
                    · simp only [lawRing, h1, h2, h3, h4, h5, h6, h7, h8, h9, h10, cond_false]
noncomputable def g8 : List V → Option (Bool × V) := fun | [.ints .u64 5 x, .ints .u64 5 y, .ints .u64 5 z] => some (true, (V.bool (lawRing x y z))) | _ => none
theorem lawRing_p (x : (Nat → Int)) (y : (Nat → Int)) (z : (Nat → Int)) : (∀ μ μ', V.den μ' (V.bool (lawRing x y z)) = V.den μ (V.bool (lawRing x y z))) ∧ ∀ μ w, PureAt Try.prog 8 (([(V.ints .u64 5 x), (V.ints .u64 5 y), (V.ints .u64 5 z)] : List V).map (V.den μ)).toArray (V.den μ (V.bool (lawRing x y z))) w :=
  pure_ok (F := o50) (N := 300) (fn := Try.f8) (args := [(V.ints .u64 5 x), (V.ints .u64 5 y), (V.ints .u64 5 z)]) (r := (V.bool (lawRing x y z))) (n := 118) hM o50_ok (noG_ok _) Try.func8 (by kernel_rfl) (by kernel_rfl) (by kernel_rfl) (by kernel_rfl) (lawRing_a x y z) (by kernel_rfl)
theorem g8_ok (vs : List V) (v : V) (h : g8 vs = some (true, v)) : (∀ μ μ', v.den μ' = v.den μ) ∧ ∀ μ w, PureAt Try.prog 8 (vs.map (V.den μ)).toArray (v.den μ) w := by
  unfold g8 at h
  split at h
  · simp only [Option.some.injEq, Prod.mk.injEq, true_and] at h
    subst h
    exact lawRing_p _ _ _
  · simp at h
noncomputable def o8 : Orc := ext 8 g8 o50
theorem o8_ok : OrcOK Try.prog o8 := ext_ok o50_ok g8_ok
end Go.Proofs.Ytbnclikjbnfodaa

namespace Go.Proofs.Ytbnclikjbnfodaa
open Go.Ev
theorem countsBO_ex : ∃ f : Bool, f = countsB := ⟨_, rfl⟩
/-- countsB, by a name that is not unfolded. -/
noncomputable def countsBO : Bool := Classical.choose countsBO_ex
theorem countsBO_eq : countsBO = countsB := Classical.choose_spec countsBO_ex
noncomputable def g50O : List V → Option (Bool × V) := fun | [] => some (true, (V.bool countsBO)) | _ => none
theorem g50O_ok (vs : List V) (v : V) (h : g50O vs = some (true, v)) : (∀ μ μ', v.den μ' = v.den μ) ∧ ∀ μ w, PureAt Try.prog 50 (vs.map (V.den μ)).toArray (v.den μ) w := by
  unfold g50O at h
  split at h
  · simp only [Option.some.injEq, Prod.mk.injEq, true_and] at h
    subst h
    rw [countsBO_eq]
    exact countsB_p
  · simp at h
noncomputable def o50O : Orc := ext 50 g50O o50
theorem o50O_ok : OrcOK Try.prog o50O := ext_ok o50_ok g50O_ok

/- fareboxlaw05.power -/
noncomputable def lawPow (low : Int) (high : Int) : (Nat → Int) := (L [low, 255, 255, 255, 255, 255, 255, 255, 255, 255, 255, 255, 255, 255, 255, 255, 255, 255, 255, 255, 255, 255, 255, 255, 255, 255, 255, 255, 255, 255, 255, high])
theorem lawPow_t (low : Int) (high : Int) : awp Try.prog o50O noG 300 (body Try.f51) (ends Try.prog Try.f51 fun v _ => okV (V.ints .u8 32 (lawPow low high)) v) ⟨[(V.int .u8 low), (V.int .u8 high)] ++ List.replicate 16 V.un, []⟩ = ((V.ints .u8 32 (lawPow low high)).den z0 = (V.ints .u8 32 (lawPow low high)).den z0) := by kernel_rfl
theorem lawPow_a (low : Int) (high : Int) : awp Try.prog o50O noG 300 (body Try.f51) (ends Try.prog Try.f51 fun v _ => okV (V.ints .u8 32 (lawPow low high)) v) ⟨[(V.int .u8 low), (V.int .u8 high)] ++ List.replicate 16 V.un, []⟩ := by rw [lawPow_t]
noncomputable def g51 : List V → Option (Bool × V) := fun | [.int .u8 low, .int .u8 high] => some (true, (V.ints .u8 32 (lawPow low high))) | _ => none
theorem lawPow_p (low : Int) (high : Int) : (∀ μ μ', V.den μ' (V.ints .u8 32 (lawPow low high)) = V.den μ (V.ints .u8 32 (lawPow low high))) ∧ ∀ μ w, PureAt Try.prog 51 (([(V.int .u8 low), (V.int .u8 high)] : List V).map (V.den μ)).toArray (V.den μ (V.ints .u8 32 (lawPow low high))) w :=
  pure_ok (F := o50O) (N := 300) (fn := Try.f51) (args := [(V.int .u8 low), (V.int .u8 high)]) (r := (V.ints .u8 32 (lawPow low high))) (n := 16) hM o50O_ok (noG_ok _) Try.func51 (by kernel_rfl) (by kernel_rfl) (by kernel_rfl) (by kernel_rfl) (lawPow_a low high) (by kernel_rfl)
theorem g51_ok (vs : List V) (v : V) (h : g51 vs = some (true, v)) : (∀ μ μ', v.den μ' = v.den μ) ∧ ∀ μ w, PureAt Try.prog 51 (vs.map (V.den μ)).toArray (v.den μ) w := by
  unfold g51 at h
  split at h
  · simp only [Option.some.injEq, Prod.mk.injEq, true_and] at h
    subst h
    exact lawPow_p _ _
  · simp at h
noncomputable def o51 : Orc := ext 51 g51 o50O
theorem o51_ok : OrcOK Try.prog o51 := ext_ok o50O_ok g51_ok

/-- What goes over when two numbers of 16 bytes are summed. -/
noncomputable def iO (a b : Nat → Int) : Nat → Int
  | 0 => 0
  | k + 1 => quoI .i64 (addI .i64 (addI .i64 (iO a b k) (IntKind.wrap .i64 (a k))) (IntKind.wrap .i64 (b k))) 256
noncomputable def iE (a : Nat → Int) : Nat → Int := (up 15 (a 15) (up 14 (a 14) (up 13 (a 13) (up 12 (a 12) (up 11 (a 11) (up 10 (a 10) (up 9 (a 9) (up 8 (a 8) (up 7 (a 7) (up 6 (a 6) (up 5 (a 5) (up 4 (a 4) (up 3 (a 3) (up 2 (a 2) (up 1 (a 1) (up 0 (a 0) (fun _ => 0)))))))))))))))))
noncomputable def iS (a b : Nat → Int) : Nat → Int := (up 16 (IntKind.wrap .u8 (iO a b 16)) (up 15 (IntKind.wrap .u8 (remI (addI .i64 (addI .i64 (iO a b 15) (IntKind.wrap .i64 (a 15))) (IntKind.wrap .i64 (b 15))) 256)) (up 14 (IntKind.wrap .u8 (remI (addI .i64 (addI .i64 (iO a b 14) (IntKind.wrap .i64 (a 14))) (IntKind.wrap .i64 (b 14))) 256)) (up 13 (IntKind.wrap .u8 (remI (addI .i64 (addI .i64 (iO a b 13) (IntKind.wrap .i64 (a 13))) (IntKind.wrap .i64 (b 13))) 256)) (up 12 (IntKind.wrap .u8 (remI (addI .i64 (addI .i64 (iO a b 12) (IntKind.wrap .i64 (a 12))) (IntKind.wrap .i64 (b 12))) 256)) (up 11 (IntKind.wrap .u8 (remI (addI .i64 (addI .i64 (iO a b 11) (IntKind.wrap .i64 (a 11))) (IntKind.wrap .i64 (b 11))) 256)) (up 10 (IntKind.wrap .u8 (remI (addI .i64 (addI .i64 (iO a b 10) (IntKind.wrap .i64 (a 10))) (IntKind.wrap .i64 (b 10))) 256)) (up 9 (IntKind.wrap .u8 (remI (addI .i64 (addI .i64 (iO a b 9) (IntKind.wrap .i64 (a 9))) (IntKind.wrap .i64 (b 9))) 256)) (up 8 (IntKind.wrap .u8 (remI (addI .i64 (addI .i64 (iO a b 8) (IntKind.wrap .i64 (a 8))) (IntKind.wrap .i64 (b 8))) 256)) (up 7 (IntKind.wrap .u8 (remI (addI .i64 (addI .i64 (iO a b 7) (IntKind.wrap .i64 (a 7))) (IntKind.wrap .i64 (b 7))) 256)) (up 6 (IntKind.wrap .u8 (remI (addI .i64 (addI .i64 (iO a b 6) (IntKind.wrap .i64 (a 6))) (IntKind.wrap .i64 (b 6))) 256)) (up 5 (IntKind.wrap .u8 (remI (addI .i64 (addI .i64 (iO a b 5) (IntKind.wrap .i64 (a 5))) (IntKind.wrap .i64 (b 5))) 256)) (up 4 (IntKind.wrap .u8 (remI (addI .i64 (addI .i64 (iO a b 4) (IntKind.wrap .i64 (a 4))) (IntKind.wrap .i64 (b 4))) 256)) (up 3 (IntKind.wrap .u8 (remI (addI .i64 (addI .i64 (iO a b 3) (IntKind.wrap .i64 (a 3))) (IntKind.wrap .i64 (b 3))) 256)) (up 2 (IntKind.wrap .u8 (remI (addI .i64 (addI .i64 (iO a b 2) (IntKind.wrap .i64 (a 2))) (IntKind.wrap .i64 (b 2))) 256)) (up 1 (IntKind.wrap .u8 (remI (addI .i64 (addI .i64 (iO a b 1) (IntKind.wrap .i64 (a 1))) (IntKind.wrap .i64 (b 1))) 256)) (up 0 (IntKind.wrap .u8 (remI (addI .i64 (addI .i64 (iO a b 0) (IntKind.wrap .i64 (a 0))) (IntKind.wrap .i64 (b 0))) 256)) (fun _ => 0))))))))))))))))))

/- fareboxlaw05.FieldInverse -/
noncomputable def lawInverse (x : (Nat → Int)) (a : (Nat → Int)) (b : (Nat → Int)) : Bool := (cond (isZeroFO x) (cond (isZeroFO (invertFO x)) countsBO false) (cond (!(eqN 5 (mulFO x (invertFO x)) (smallFO 1))) false (cond (!(eqN 5 (powFO x (lawPow 236 127)) (smallFO 1))) false (cond (!(eqN 5 (invertFO (invertFO x)) (selectFO true x (invertFO x)))) false (cond (eqN 5 (mulFO (powFO x (iE a)) (powFO x (iE b))) (powFO x (iS a b))) (cond (eqN 5 (powFO x (up 0 1 (fun _ => 0))) (selectFO true x (invertFO x))) (cond (eqN 5 (powFO x (fun _ => 0)) (smallFO 1)) countsBO false) false) false)))))
theorem lawInverse_t (x : (Nat → Int)) (a : (Nat → Int)) (b : (Nat → Int)) : awp Try.prog o51 noG 300 (body Try.f9) (ends Try.prog Try.f9 fun v _ => okV (V.bool (lawInverse x a b)) v) ⟨[(V.ints .u64 5 x), (V.ints .u8 16 a), (V.ints .u8 16 b)] ++ List.replicate 106 V.un, []⟩ = (mB (isZeroFO x) (mB (isZeroFO (invertFO x)) ((V.bool countsBO).den z0 = (V.bool (lawInverse x a b)).den z0) ((V.bool false).den z0 = (V.bool (lawInverse x a b)).den z0)) (mB (!(eqN 5 (mulFO x (invertFO x)) (smallFO 1))) ((V.bool false).den z0 = (V.bool (lawInverse x a b)).den z0) (mB (!(eqN 5 (powFO x (lawPow 236 127)) (smallFO 1))) ((V.bool false).den z0 = (V.bool (lawInverse x a b)).den z0) (mB (!(eqN 5 (invertFO (invertFO x)) (selectFO true x (invertFO x)))) ((V.bool false).den z0 = (V.bool (lawInverse x a b)).den z0) (mB (eqN 5 (mulFO (powFO x (iE a)) (powFO x (iE b))) (powFO x (iS a b))) (mB (eqN 5 (powFO x (up 0 1 (fun _ => 0))) (selectFO true x (invertFO x))) (mB (eqN 5 (powFO x (fun _ => 0)) (smallFO 1)) ((V.bool countsBO).den z0 = (V.bool (lawInverse x a b)).den z0) ((V.bool false).den z0 = (V.bool (lawInverse x a b)).den z0)) ((V.bool false).den z0 = (V.bool (lawInverse x a b)).den z0)) ((V.bool false).den z0 = (V.bool (lawInverse x a b)).den z0)))))) := by kernel_rfl
theorem lawInverse_a (x : (Nat → Int)) (a : (Nat → Int)) (b : (Nat → Int)) : awp Try.prog o51 noG 300 (body Try.f9) (ends Try.prog Try.f9 fun v _ => okV (V.bool (lawInverse x a b)) v) ⟨[(V.ints .u64 5 x), (V.ints .u8 16 a), (V.ints .u8 16 b)] ++ List.replicate 106 V.un, []⟩ := by
  rw [lawInverse_t]
  refine mBt (fun h1 => ?_) (fun h1 => ?_)
  · refine mBt (fun h2 => ?_) (fun h2 => ?_)
    · simp only [lawInverse, h1, h2, cond_true]
    · simp only [lawInverse, h1, h2, cond_true, cond_false]
  · refine mBt (fun h2 => ?_) (fun h2 => ?_)
    · simp only [lawInverse, h1, h2, cond_true, cond_false]
    · refine mBt (fun h3 => ?_) (fun h3 => ?_)
      · simp only [lawInverse, h1, h2, h3, cond_true, cond_false]
      · refine mBt (fun h4 => ?_) (fun h4 => ?_)
        · simp only [lawInverse, h1, h2, h3, h4, cond_true, cond_false]
        · refine mBt (fun h5 => ?_) (fun h5 => ?_)
          · refine mBt (fun h6 => ?_) (fun h6 => ?_)
            · refine mBt (fun h7 => ?_) (fun h7 => ?_)
              · simp only [lawInverse, h1, h2, h3, h4, h5, h6, h7, cond_true, cond_false]
              · simp only [lawInverse, h1, h2, h3, h4, h5, h6, h7, cond_true, cond_false]
            · simp only [lawInverse, h1, h2, h3, h4, h5, h6, cond_true, cond_false]
          · simp only [lawInverse, h1, h2, h3, h4, h5, cond_false]
noncomputable def g9 : List V → Option (Bool × V) := fun | [.ints .u64 5 x, .ints .u8 16 a, .ints .u8 16 b] => some (true, (V.bool (lawInverse x a b))) | _ => none
theorem lawInverse_p (x : (Nat → Int)) (a : (Nat → Int)) (b : (Nat → Int)) : (∀ μ μ', V.den μ' (V.bool (lawInverse x a b)) = V.den μ (V.bool (lawInverse x a b))) ∧ ∀ μ w, PureAt Try.prog 9 (([(V.ints .u64 5 x), (V.ints .u8 16 a), (V.ints .u8 16 b)] : List V).map (V.den μ)).toArray (V.den μ (V.bool (lawInverse x a b))) w :=
  pure_ok (F := o51) (N := 300) (fn := Try.f9) (args := [(V.ints .u64 5 x), (V.ints .u8 16 a), (V.ints .u8 16 b)]) (r := (V.bool (lawInverse x a b))) (n := 106) hM o51_ok (noG_ok _) Try.func9 (by kernel_rfl) (by kernel_rfl) (by kernel_rfl) (by kernel_rfl) (lawInverse_a x a b) (by kernel_rfl)
theorem g9_ok (vs : List V) (v : V) (h : g9 vs = some (true, v)) : (∀ μ μ', v.den μ' = v.den μ) ∧ ∀ μ w, PureAt Try.prog 9 (vs.map (V.den μ)).toArray (v.den μ) w := by
  unfold g9 at h
  split at h
  · simp only [Option.some.injEq, Prod.mk.injEq, true_and] at h
    subst h
    exact lawInverse_p _ _ _
  · simp at h
noncomputable def o9 : Orc := ext 9 g9 o51
theorem o9_ok : OrcOK Try.prog o9 := ext_ok o51_ok g9_ok
end Go.Proofs.Ytbnclikjbnfodaa

namespace Go.Proofs.Ytbnclikjbnfodaa
open Go.Ev
/- field.SqrtRatio -/
noncomputable def sqrtF (u : (Nat → Int)) (y : (Nat → Int)) : ((Nat → Int) × Bool) := (cond (isZeroFO y) ((fun _ => 0), (isZeroFO u)) (cond (equalFO (mulFO y (squareFO (mulFO (mulFO u (mulFO (squareFO y) y)) (powFO (mulFO (mulFO u (squareFO (mulFO (squareFO y) y))) y) (power255 253 15))))) u) ((selectFO (isOddFO (mulFO (mulFO u (mulFO (squareFO y) y)) (powFO (mulFO (mulFO u (squareFO (mulFO (squareFO y) y))) y) (power255 253 15)))) (negFO (mulFO (mulFO u (mulFO (squareFO y) y)) (powFO (mulFO (mulFO u (squareFO (mulFO (squareFO y) y))) y) (power255 253 15)))) (mulFO (mulFO u (mulFO (squareFO y) y)) (powFO (mulFO (mulFO u (squareFO (mulFO (squareFO y) y))) y) (power255 253 15)))), true) (cond (equalFO (mulFO y (squareFO (mulFO (mulFO u (mulFO (squareFO y) y)) (powFO (mulFO (mulFO u (squareFO (mulFO (squareFO y) y))) y) (power255 253 15))))) (negFO u)) ((selectFO (isOddFO (mulFO (mulFO (mulFO u (mulFO (squareFO y) y)) (powFO (mulFO (mulFO u (squareFO (mulFO (squareFO y) y))) y) (power255 253 15))) (powFO (smallFO 2) (power255 251 31)))) (negFO (mulFO (mulFO (mulFO u (mulFO (squareFO y) y)) (powFO (mulFO (mulFO u (squareFO (mulFO (squareFO y) y))) y) (power255 253 15))) (powFO (smallFO 2) (power255 251 31)))) (mulFO (mulFO (mulFO u (mulFO (squareFO y) y)) (powFO (mulFO (mulFO u (squareFO (mulFO (squareFO y) y))) y) (power255 253 15))) (powFO (smallFO 2) (power255 251 31)))), true) ((fun _ => 0), false))))
theorem sqrtF_t (u : (Nat → Int)) (y : (Nat → Int)) : awp Try.prog o51 noG 300 (body Try.f52) (ends Try.prog Try.f52 fun v _ => okV (V.tup [(V.ints .u64 5 (sqrtF u y).1), (V.bool (sqrtF u y).2)]) v) ⟨[(V.ints .u64 5 u), (V.ints .u64 5 y)] ++ List.replicate 55 V.un, []⟩ = (mB (isZeroFO y) ((V.tup [(V.ints .u64 5 (fun _ => 0)), (V.bool (isZeroFO u))]).den z0 = (V.tup [(V.ints .u64 5 (sqrtF u y).1), (V.bool (sqrtF u y).2)]).den z0) (mB (equalFO (mulFO y (squareFO (mulFO (mulFO u (mulFO (squareFO y) y)) (powFO (mulFO (mulFO u (squareFO (mulFO (squareFO y) y))) y) (power255 253 15))))) u) ((V.tup [(V.ints .u64 5 (selectFO (isOddFO (mulFO (mulFO u (mulFO (squareFO y) y)) (powFO (mulFO (mulFO u (squareFO (mulFO (squareFO y) y))) y) (power255 253 15)))) (negFO (mulFO (mulFO u (mulFO (squareFO y) y)) (powFO (mulFO (mulFO u (squareFO (mulFO (squareFO y) y))) y) (power255 253 15)))) (mulFO (mulFO u (mulFO (squareFO y) y)) (powFO (mulFO (mulFO u (squareFO (mulFO (squareFO y) y))) y) (power255 253 15))))), (V.bool true)]).den z0 = (V.tup [(V.ints .u64 5 (sqrtF u y).1), (V.bool (sqrtF u y).2)]).den z0) (mB (equalFO (mulFO y (squareFO (mulFO (mulFO u (mulFO (squareFO y) y)) (powFO (mulFO (mulFO u (squareFO (mulFO (squareFO y) y))) y) (power255 253 15))))) (negFO u)) ((V.tup [(V.ints .u64 5 (selectFO (isOddFO (mulFO (mulFO (mulFO u (mulFO (squareFO y) y)) (powFO (mulFO (mulFO u (squareFO (mulFO (squareFO y) y))) y) (power255 253 15))) (powFO (smallFO 2) (power255 251 31)))) (negFO (mulFO (mulFO (mulFO u (mulFO (squareFO y) y)) (powFO (mulFO (mulFO u (squareFO (mulFO (squareFO y) y))) y) (power255 253 15))) (powFO (smallFO 2) (power255 251 31)))) (mulFO (mulFO (mulFO u (mulFO (squareFO y) y)) (powFO (mulFO (mulFO u (squareFO (mulFO (squareFO y) y))) y) (power255 253 15))) (powFO (smallFO 2) (power255 251 31))))), (V.bool true)]).den z0 = (V.tup [(V.ints .u64 5 (sqrtF u y).1), (V.bool (sqrtF u y).2)]).den z0) ((V.tup [(V.ints .u64 5 (fun _ => 0)), (V.bool false)]).den z0 = (V.tup [(V.ints .u64 5 (sqrtF u y).1), (V.bool (sqrtF u y).2)]).den z0)))) := by kernel_rfl
theorem sqrtF_a (u : (Nat → Int)) (y : (Nat → Int)) : awp Try.prog o51 noG 300 (body Try.f52) (ends Try.prog Try.f52 fun v _ => okV (V.tup [(V.ints .u64 5 (sqrtF u y).1), (V.bool (sqrtF u y).2)]) v) ⟨[(V.ints .u64 5 u), (V.ints .u64 5 y)] ++ List.replicate 55 V.un, []⟩ := by
  rw [sqrtF_t]
  refine mBt (fun h1 => ?_) (fun h1 => ?_)
  · simp only [sqrtF, h1, cond_true]
  · refine mBt (fun h2 => ?_) (fun h2 => ?_)
    · simp only [sqrtF, h1, h2, cond_true, cond_false]
    · refine mBt (fun h3 => ?_) (fun h3 => ?_)
      · simp only [sqrtF, h1, h2, h3, cond_true, cond_false]
      · simp only [sqrtF, h1, h2, h3, cond_false]
noncomputable def g52 : List V → Option (Bool × V) := fun | [.ints .u64 5 u, .ints .u64 5 y] => some (true, (V.tup [(V.ints .u64 5 (sqrtF u y).1), (V.bool (sqrtF u y).2)])) | _ => none
theorem sqrtF_p (u : (Nat → Int)) (y : (Nat → Int)) : (∀ μ μ', V.den μ' (V.tup [(V.ints .u64 5 (sqrtF u y).1), (V.bool (sqrtF u y).2)]) = V.den μ (V.tup [(V.ints .u64 5 (sqrtF u y).1), (V.bool (sqrtF u y).2)])) ∧ ∀ μ w, PureAt Try.prog 52 (([(V.ints .u64 5 u), (V.ints .u64 5 y)] : List V).map (V.den μ)).toArray (V.den μ (V.tup [(V.ints .u64 5 (sqrtF u y).1), (V.bool (sqrtF u y).2)])) w :=
  pure_ok (F := o51) (N := 300) (fn := Try.f52) (args := [(V.ints .u64 5 u), (V.ints .u64 5 y)]) (r := (V.tup [(V.ints .u64 5 (sqrtF u y).1), (V.bool (sqrtF u y).2)])) (n := 55) hM o51_ok (noG_ok _) Try.func52 (by kernel_rfl) (by kernel_rfl) (by kernel_rfl) (by kernel_rfl) (sqrtF_a u y) (by kernel_rfl)
theorem g52_ok (vs : List V) (v : V) (h : g52 vs = some (true, v)) : (∀ μ μ', v.den μ' = v.den μ) ∧ ∀ μ w, PureAt Try.prog 52 (vs.map (V.den μ)).toArray (v.den μ) w := by
  unfold g52 at h
  split at h
  · simp only [Option.some.injEq, Prod.mk.injEq, true_and] at h
    subst h
    exact sqrtF_p _ _
  · simp at h
noncomputable def o52 : Orc := ext 52 g52 o51
theorem o52_ok : OrcOK Try.prog o52 := ext_ok o51_ok g52_ok

theorem rMulO_ex : ∃ f : (Nat → Int) → (Nat → Int) → (Nat → Int), f = rMul := ⟨_, rfl⟩
/-- rMul, by a name that is not unfolded. -/
noncomputable def rMulO : (Nat → Int) → (Nat → Int) → (Nat → Int) := Classical.choose rMulO_ex
theorem rMulO_eq : rMulO = rMul := Classical.choose_spec rMulO_ex
noncomputable def g44O : List V → Option (Bool × V) := fun | [.ints .u64 10 a, .ints .u64 10 b] => some (true, (V.ints .u64 10 (rMulO a b))) | _ => none
theorem g44O_ok (vs : List V) (v : V) (h : g44O vs = some (true, v)) : (∀ μ μ', v.den μ' = v.den μ) ∧ ∀ μ w, PureAt Try.prog 44 (vs.map (V.den μ)).toArray (v.den μ) w := by
  unfold g44O at h
  split at h
  · simp only [Option.some.injEq, Prod.mk.injEq, true_and] at h
    subst h
    rw [rMulO_eq]
    exact rMul_p _ _
  · simp at h
noncomputable def o44O : Orc := ext 44 g44O o52
theorem o44O_ok : OrcOK Try.prog o44O := ext_ok o52_ok g44O_ok

theorem rIsZeroO_ex : ∃ f : (Nat → Int) → Bool, f = rIsZero := ⟨_, rfl⟩
/-- rIsZero, by a name that is not unfolded. -/
noncomputable def rIsZeroO : (Nat → Int) → Bool := Classical.choose rIsZeroO_ex
theorem rIsZeroO_eq : rIsZeroO = rIsZero := Classical.choose_spec rIsZeroO_ex
noncomputable def g24O : List V → Option (Bool × V) := fun | [.ints .u64 10 a] => some (true, (V.bool (rIsZeroO a))) | _ => none
theorem g24O_ok (vs : List V) (v : V) (h : g24O vs = some (true, v)) : (∀ μ μ', v.den μ' = v.den μ) ∧ ∀ μ w, PureAt Try.prog 24 (vs.map (V.den μ)).toArray (v.den μ) w := by
  unfold g24O at h
  split at h
  · simp only [Option.some.injEq, Prod.mk.injEq, true_and] at h
    subst h
    rw [rIsZeroO_eq]
    exact rIsZero_p _
  · simp at h
noncomputable def o24O : Orc := ext 24 g24O o44O
theorem o24O_ok : OrcOK Try.prog o24O := ext_ok o44O_ok g24O_ok

theorem rIsOddO_ex : ∃ f : (Nat → Int) → Bool, f = rIsOdd := ⟨_, rfl⟩
/-- rIsOdd, by a name that is not unfolded. -/
noncomputable def rIsOddO : (Nat → Int) → Bool := Classical.choose rIsOddO_ex
theorem rIsOddO_eq : rIsOddO = rIsOdd := Classical.choose_spec rIsOddO_ex
noncomputable def g26O : List V → Option (Bool × V) := fun | [.ints .u64 10 a] => some (true, (V.bool (rIsOddO a))) | _ => none
theorem g26O_ok (vs : List V) (v : V) (h : g26O vs = some (true, v)) : (∀ μ μ', v.den μ' = v.den μ) ∧ ∀ μ w, PureAt Try.prog 26 (vs.map (V.den μ)).toArray (v.den μ) w := by
  unfold g26O at h
  split at h
  · simp only [Option.some.injEq, Prod.mk.injEq, true_and] at h
    subst h
    rw [rIsOddO_eq]
    exact rIsOdd_p _
  · simp at h
noncomputable def o26O : Orc := ext 26 g26O o24O
theorem o26O_ok : OrcOK Try.prog o26O := ext_ok o24O_ok g26O_ok

theorem rNegO_ex : ∃ f : (Nat → Int) → (Nat → Int), f = rNeg := ⟨_, rfl⟩
/-- rNeg, by a name that is not unfolded. -/
noncomputable def rNegO : (Nat → Int) → (Nat → Int) := Classical.choose rNegO_ex
theorem rNegO_eq : rNegO = rNeg := Classical.choose_spec rNegO_ex
noncomputable def g34O : List V → Option (Bool × V) := fun | [.ints .u64 10 a] => some (true, (V.ints .u64 10 (rNegO a))) | _ => none
theorem g34O_ok (vs : List V) (v : V) (h : g34O vs = some (true, v)) : (∀ μ μ', v.den μ' = v.den μ) ∧ ∀ μ w, PureAt Try.prog 34 (vs.map (V.den μ)).toArray (v.den μ) w := by
  unfold g34O at h
  split at h
  · simp only [Option.some.injEq, Prod.mk.injEq, true_and] at h
    subst h
    rw [rNegO_eq]
    exact rNeg_p _
  · simp at h
noncomputable def o34O : Orc := ext 34 g34O o26O
theorem o34O_ok : OrcOK Try.prog o34O := ext_ok o26O_ok g34O_ok

theorem rSmallO_ex : ∃ f : Int → (Nat → Int), f = rSmall := ⟨_, rfl⟩
/-- rSmall, by a name that is not unfolded. -/
noncomputable def rSmallO : Int → (Nat → Int) := Classical.choose rSmallO_ex
theorem rSmallO_eq : rSmallO = rSmall := Classical.choose_spec rSmallO_ex
noncomputable def g42O : List V → Option (Bool × V) := fun | [.int .u64 n] => some (true, (V.ints .u64 10 (rSmallO n))) | _ => none
theorem g42O_ok (vs : List V) (v : V) (h : g42O vs = some (true, v)) : (∀ μ μ', v.den μ' = v.den μ) ∧ ∀ μ w, PureAt Try.prog 42 (vs.map (V.den μ)).toArray (v.den μ) w := by
  unfold g42O at h
  split at h
  · simp only [Option.some.injEq, Prod.mk.injEq, true_and] at h
    subst h
    rw [rSmallO_eq]
    exact rSmall_p _
  · simp at h
noncomputable def o42O : Orc := ext 42 g42O o34O
theorem o42O_ok : OrcOK Try.prog o42O := ext_ok o34O_ok g42O_ok

/- fareboxref05.even -/
noncomputable def rEven (a : (Nat → Int)) : (Nat → Int) := (cond (rIsOddO a) (rNegO a) a)
theorem rEven_t (a : (Nat → Int)) : awp Try.prog o42O noG 300 (body Try.f92) (ends Try.prog Try.f92 fun v _ => okV (V.ints .u64 10 (rEven a)) v) ⟨[(V.ints .u64 10 a)] ++ List.replicate 7 V.un, []⟩ = (mB (rIsOddO a) ((V.ints .u64 10 (rNegO a)).den z0 = (V.ints .u64 10 (rEven a)).den z0) ((V.ints .u64 10 a).den z0 = (V.ints .u64 10 (rEven a)).den z0)) := by kernel_rfl
theorem rEven_a (a : (Nat → Int)) : awp Try.prog o42O noG 300 (body Try.f92) (ends Try.prog Try.f92 fun v _ => okV (V.ints .u64 10 (rEven a)) v) ⟨[(V.ints .u64 10 a)] ++ List.replicate 7 V.un, []⟩ := by
  rw [rEven_t]
  refine mBt (fun h1 => ?_) (fun h1 => ?_)
  · simp only [rEven, h1, cond_true]
  · simp only [rEven, h1, cond_false]
noncomputable def g92 : List V → Option (Bool × V) := fun | [.ints .u64 10 a] => some (true, (V.ints .u64 10 (rEven a))) | _ => none
theorem rEven_p (a : (Nat → Int)) : (∀ μ μ', V.den μ' (V.ints .u64 10 (rEven a)) = V.den μ (V.ints .u64 10 (rEven a))) ∧ ∀ μ w, PureAt Try.prog 92 (([(V.ints .u64 10 a)] : List V).map (V.den μ)).toArray (V.den μ (V.ints .u64 10 (rEven a))) w :=
  pure_ok (F := o42O) (N := 300) (fn := Try.f92) (args := [(V.ints .u64 10 a)]) (r := (V.ints .u64 10 (rEven a))) (n := 7) hM o42O_ok (noG_ok _) Try.func92 (by kernel_rfl) (by kernel_rfl) (by kernel_rfl) (by kernel_rfl) (rEven_a a) (by kernel_rfl)
theorem g92_ok (vs : List V) (v : V) (h : g92 vs = some (true, v)) : (∀ μ μ', v.den μ' = v.den μ) ∧ ∀ μ w, PureAt Try.prog 92 (vs.map (V.den μ)).toArray (v.den μ) w := by
  unfold g92 at h
  split at h
  · simp only [Option.some.injEq, Prod.mk.injEq, true_and] at h
    subst h
    exact rEven_p _
  · simp at h
noncomputable def o92 : Orc := ext 92 g92 o42O
theorem o92_ok : OrcOK Try.prog o92 := ext_ok o42O_ok g92_ok

theorem rEvenO_ex : ∃ f : (Nat → Int) → (Nat → Int), f = rEven := ⟨_, rfl⟩
/-- rEven, by a name that is not unfolded. -/
noncomputable def rEvenO : (Nat → Int) → (Nat → Int) := Classical.choose rEvenO_ex
theorem rEvenO_eq : rEvenO = rEven := Classical.choose_spec rEvenO_ex
noncomputable def g92O : List V → Option (Bool × V) := fun | [.ints .u64 10 a] => some (true, (V.ints .u64 10 (rEvenO a))) | _ => none
theorem g92O_ok (vs : List V) (v : V) (h : g92O vs = some (true, v)) : (∀ μ μ', v.den μ' = v.den μ) ∧ ∀ μ w, PureAt Try.prog 92 (vs.map (V.den μ)).toArray (v.den μ) w := by
  unfold g92O at h
  split at h
  · simp only [Option.some.injEq, Prod.mk.injEq, true_and] at h
    subst h
    rw [rEvenO_eq]
    exact rEven_p _
  · simp at h
noncomputable def o92O : Orc := ext 92 g92O o92
theorem o92O_ok : OrcOK Try.prog o92O := ext_ok o92_ok g92O_ok

/- fareboxref05.SqrtRatio -/
noncomputable def rSqrt (u : (Nat → Int)) (y : (Nat → Int)) : ((Nat → Int) × Bool) := (cond (rIsZeroO y) ((fun _ => 0), (rIsZeroO u)) (cond (eqN 10 (rMulO (rPowO (rMulO u (rInvertO y)) (rPower 254 15)) (rPowO (rMulO u (rInvertO y)) (rPower 254 15))) (rMulO u (rInvertO y))) ((rEvenO (rPowO (rMulO u (rInvertO y)) (rPower 254 15))), true) (cond (eqN 10 (rMulO (rMulO (rPowO (rMulO u (rInvertO y)) (rPower 254 15)) (rPowO (rSmallO 2) (rPower 251 31))) (rMulO (rPowO (rMulO u (rInvertO y)) (rPower 254 15)) (rPowO (rSmallO 2) (rPower 251 31)))) (rMulO u (rInvertO y))) ((rEvenO (rMulO (rPowO (rMulO u (rInvertO y)) (rPower 254 15)) (rPowO (rSmallO 2) (rPower 251 31)))), true) ((fun _ => 0), false))))
theorem rSqrt_t (u : (Nat → Int)) (y : (Nat → Int)) : awp Try.prog o92O noG 300 (body Try.f53) (ends Try.prog Try.f53 fun v _ => okV (V.tup [(V.ints .u64 10 (rSqrt u y).1), (V.bool (rSqrt u y).2)]) v) ⟨[(V.ints .u64 10 u), (V.ints .u64 10 y)] ++ List.replicate 38 V.un, []⟩ = (mB (rIsZeroO y) ((V.tup [(V.ints .u64 10 (fun _ => 0)), (V.bool (rIsZeroO u))]).den z0 = (V.tup [(V.ints .u64 10 (rSqrt u y).1), (V.bool (rSqrt u y).2)]).den z0) (mB (eqN 10 (rMulO (rPowO (rMulO u (rInvertO y)) (rPower 254 15)) (rPowO (rMulO u (rInvertO y)) (rPower 254 15))) (rMulO u (rInvertO y))) ((V.tup [(V.ints .u64 10 (rEvenO (rPowO (rMulO u (rInvertO y)) (rPower 254 15)))), (V.bool true)]).den z0 = (V.tup [(V.ints .u64 10 (rSqrt u y).1), (V.bool (rSqrt u y).2)]).den z0) (mB (eqN 10 (rMulO (rMulO (rPowO (rMulO u (rInvertO y)) (rPower 254 15)) (rPowO (rSmallO 2) (rPower 251 31))) (rMulO (rPowO (rMulO u (rInvertO y)) (rPower 254 15)) (rPowO (rSmallO 2) (rPower 251 31)))) (rMulO u (rInvertO y))) ((V.tup [(V.ints .u64 10 (rEvenO (rMulO (rPowO (rMulO u (rInvertO y)) (rPower 254 15)) (rPowO (rSmallO 2) (rPower 251 31))))), (V.bool true)]).den z0 = (V.tup [(V.ints .u64 10 (rSqrt u y).1), (V.bool (rSqrt u y).2)]).den z0) ((V.tup [(V.ints .u64 10 (fun _ => 0)), (V.bool false)]).den z0 = (V.tup [(V.ints .u64 10 (rSqrt u y).1), (V.bool (rSqrt u y).2)]).den z0)))) := by kernel_rfl
theorem rSqrt_a (u : (Nat → Int)) (y : (Nat → Int)) : awp Try.prog o92O noG 300 (body Try.f53) (ends Try.prog Try.f53 fun v _ => okV (V.tup [(V.ints .u64 10 (rSqrt u y).1), (V.bool (rSqrt u y).2)]) v) ⟨[(V.ints .u64 10 u), (V.ints .u64 10 y)] ++ List.replicate 38 V.un, []⟩ := by
  rw [rSqrt_t]
  refine mBt (fun h1 => ?_) (fun h1 => ?_)
  · simp only [rSqrt, h1, cond_true]
  · refine mBt (fun h2 => ?_) (fun h2 => ?_)
    · simp only [rSqrt, h1, h2, cond_true, cond_false]
    · refine mBt (fun h3 => ?_) (fun h3 => ?_)
      · simp only [rSqrt, h1, h2, h3, cond_true, cond_false]
      · simp only [rSqrt, h1, h2, h3, cond_false]
noncomputable def g53 : List V → Option (Bool × V) := fun | [.ints .u64 10 u, .ints .u64 10 y] => some (true, (V.tup [(V.ints .u64 10 (rSqrt u y).1), (V.bool (rSqrt u y).2)])) | _ => none
theorem rSqrt_p (u : (Nat → Int)) (y : (Nat → Int)) : (∀ μ μ', V.den μ' (V.tup [(V.ints .u64 10 (rSqrt u y).1), (V.bool (rSqrt u y).2)]) = V.den μ (V.tup [(V.ints .u64 10 (rSqrt u y).1), (V.bool (rSqrt u y).2)])) ∧ ∀ μ w, PureAt Try.prog 53 (([(V.ints .u64 10 u), (V.ints .u64 10 y)] : List V).map (V.den μ)).toArray (V.den μ (V.tup [(V.ints .u64 10 (rSqrt u y).1), (V.bool (rSqrt u y).2)])) w :=
  pure_ok (F := o92O) (N := 300) (fn := Try.f53) (args := [(V.ints .u64 10 u), (V.ints .u64 10 y)]) (r := (V.tup [(V.ints .u64 10 (rSqrt u y).1), (V.bool (rSqrt u y).2)])) (n := 38) hM o92O_ok (noG_ok _) Try.func53 (by kernel_rfl) (by kernel_rfl) (by kernel_rfl) (by kernel_rfl) (rSqrt_a u y) (by kernel_rfl)
theorem g53_ok (vs : List V) (v : V) (h : g53 vs = some (true, v)) : (∀ μ μ', v.den μ' = v.den μ) ∧ ∀ μ w, PureAt Try.prog 53 (vs.map (V.den μ)).toArray (v.den μ) w := by
  unfold g53 at h
  split at h
  · simp only [Option.some.injEq, Prod.mk.injEq, true_and] at h
    subst h
    exact rSqrt_p _ _
  · simp at h
noncomputable def o53 : Orc := ext 53 g53 o92O
theorem o53_ok : OrcOK Try.prog o53 := ext_ok o92O_ok g53_ok

theorem sqrtFO_ex : ∃ f : (Nat → Int) → (Nat → Int) → ((Nat → Int) × Bool), f = sqrtF := ⟨_, rfl⟩
/-- sqrtF, by a name that is not unfolded. -/
noncomputable def sqrtFO : (Nat → Int) → (Nat → Int) → ((Nat → Int) × Bool) := Classical.choose sqrtFO_ex
theorem sqrtFO_eq : sqrtFO = sqrtF := Classical.choose_spec sqrtFO_ex
noncomputable def g52O : List V → Option (Bool × V) := fun | [.ints .u64 5 u, .ints .u64 5 y] => some (true, (V.tup [(V.ints .u64 5 (sqrtFO u y).1), (V.bool (sqrtFO u y).2)])) | _ => none
theorem g52O_ok (vs : List V) (v : V) (h : g52O vs = some (true, v)) : (∀ μ μ', v.den μ' = v.den μ) ∧ ∀ μ w, PureAt Try.prog 52 (vs.map (V.den μ)).toArray (v.den μ) w := by
  unfold g52O at h
  split at h
  · simp only [Option.some.injEq, Prod.mk.injEq, true_and] at h
    subst h
    rw [sqrtFO_eq]
    exact sqrtF_p _ _
  · simp at h
noncomputable def o52O : Orc := ext 52 g52O o53
theorem o52O_ok : OrcOK Try.prog o52O := ext_ok o53_ok g52O_ok

theorem rSqrtO_ex : ∃ f : (Nat → Int) → (Nat → Int) → ((Nat → Int) × Bool), f = rSqrt := ⟨_, rfl⟩
/-- rSqrt, by a name that is not unfolded. -/
noncomputable def rSqrtO : (Nat → Int) → (Nat → Int) → ((Nat → Int) × Bool) := Classical.choose rSqrtO_ex
theorem rSqrtO_eq : rSqrtO = rSqrt := Classical.choose_spec rSqrtO_ex
noncomputable def g53O : List V → Option (Bool × V) := fun | [.ints .u64 10 u, .ints .u64 10 y] => some (true, (V.tup [(V.ints .u64 10 (rSqrtO u y).1), (V.bool (rSqrtO u y).2)])) | _ => none
theorem g53O_ok (vs : List V) (v : V) (h : g53O vs = some (true, v)) : (∀ μ μ', v.den μ' = v.den μ) ∧ ∀ μ w, PureAt Try.prog 53 (vs.map (V.den μ)).toArray (v.den μ) w := by
  unfold g53O at h
  split at h
  · simp only [Option.some.injEq, Prod.mk.injEq, true_and] at h
    subst h
    rw [rSqrtO_eq]
    exact rSqrt_p _ _
  · simp at h
noncomputable def o53O : Orc := ext 53 g53O o52O
theorem o53O_ok : OrcOK Try.prog o53O := ext_ok o52O_ok g53O_ok
end Go.Proofs.Ytbnclikjbnfodaa

namespace Go.Proofs.Ytbnclikjbnfodaa
open Go.Ev
/- fareboxlaw05.FieldRoots -/
noncomputable def lawRoots (u : (Nat → Int)) (y : (Nat → Int)) : Bool := (cond ((sqrtFO u y).2 == (rSqrtO (rOfO u) (rOfO y)).2) (isEO (sqrtFO u y).1 (rSqrtO (rOfO u) (rOfO y)).1) false)
theorem lawRoots_t (u : (Nat → Int)) (y : (Nat → Int)) : awp Try.prog o53O noG 300 (body Try.f10) (ends Try.prog Try.f10 fun v _ => okV (V.bool (lawRoots u y)) v) ⟨[(V.ints .u64 5 u), (V.ints .u64 5 y)] ++ List.replicate 29 V.un, []⟩ = (mB ((sqrtFO u y).2 == (rSqrtO (rOfO u) (rOfO y)).2) ((V.bool (isEO (sqrtFO u y).1 (rSqrtO (rOfO u) (rOfO y)).1)).den z0 = (V.bool (lawRoots u y)).den z0) ((V.bool false).den z0 = (V.bool (lawRoots u y)).den z0)) := by kernel_rfl
theorem lawRoots_a (u : (Nat → Int)) (y : (Nat → Int)) : awp Try.prog o53O noG 300 (body Try.f10) (ends Try.prog Try.f10 fun v _ => okV (V.bool (lawRoots u y)) v) ⟨[(V.ints .u64 5 u), (V.ints .u64 5 y)] ++ List.replicate 29 V.un, []⟩ := by
  rw [lawRoots_t]
  refine mBt (fun h1 => ?_) (fun h1 => ?_)
  · simp only [lawRoots, h1, cond_true]
  · simp only [lawRoots, h1, cond_false]
noncomputable def g10 : List V → Option (Bool × V) := fun | [.ints .u64 5 u, .ints .u64 5 y] => some (true, (V.bool (lawRoots u y))) | _ => none
theorem lawRoots_p (u : (Nat → Int)) (y : (Nat → Int)) : (∀ μ μ', V.den μ' (V.bool (lawRoots u y)) = V.den μ (V.bool (lawRoots u y))) ∧ ∀ μ w, PureAt Try.prog 10 (([(V.ints .u64 5 u), (V.ints .u64 5 y)] : List V).map (V.den μ)).toArray (V.den μ (V.bool (lawRoots u y))) w :=
  pure_ok (F := o53O) (N := 300) (fn := Try.f10) (args := [(V.ints .u64 5 u), (V.ints .u64 5 y)]) (r := (V.bool (lawRoots u y))) (n := 29) hM o53O_ok (noG_ok _) Try.func10 (by kernel_rfl) (by kernel_rfl) (by kernel_rfl) (by kernel_rfl) (lawRoots_a u y) (by kernel_rfl)
theorem g10_ok (vs : List V) (v : V) (h : g10 vs = some (true, v)) : (∀ μ μ', v.den μ' = v.den μ) ∧ ∀ μ w, PureAt Try.prog 10 (vs.map (V.den μ)).toArray (v.den μ) w := by
  unfold g10 at h
  split at h
  · simp only [Option.some.injEq, Prod.mk.injEq, true_and] at h
    subst h
    exact lawRoots_p _ _
  · simp at h
noncomputable def o10 : Orc := ext 10 g10 o53O
theorem o10_ok : OrcOK Try.prog o10 := ext_ok o53O_ok g10_ok

/- fareboxlaw05.FieldSquares -/
noncomputable def lawSquares (u : (Nat → Int)) (y : (Nat → Int)) : Bool := (cond (isZeroFO y) (cond ((sqrtFO u y).2 == (isZeroFO u)) (cond (isZeroFO (sqrtFO u y).1) countsBO false) false) (cond (sqrtFO u y).2 (cond (isOddFO (sqrtFO u y).1) false (cond (!(eqN 5 (mulFO y (squareFO (sqrtFO u y).1)) (selectFO true u y))) false (cond (!(sqrtFO u y).2) (cond (!(isZeroFO (sqrtFO u y).1)) false (cond (!(eqN 5 (powFO (mulFO u y) (lawPow 246 63)) (negFO (smallFO 1)))) false (cond (sqrtFO (mulFO y (squareFO u)) y).2 (cond (eqN 5 (sqrtFO (mulFO y (squareFO u)) y).1 (selectFO true u y)) (cond (!(isOddFO (sqrtFO (mulFO y (squareFO u)) y).1)) countsBO false) (cond (eqN 5 (sqrtFO (mulFO y (squareFO u)) y).1 (negFO u)) (cond (!(isOddFO (sqrtFO (mulFO y (squareFO u)) y).1)) countsBO false) false)) false))) (cond (sqrtFO (mulFO y (squareFO u)) y).2 (cond (eqN 5 (sqrtFO (mulFO y (squareFO u)) y).1 (selectFO true u y)) (cond (!(isOddFO (sqrtFO (mulFO y (squareFO u)) y).1)) countsBO false) (cond (eqN 5 (sqrtFO (mulFO y (squareFO u)) y).1 (negFO u)) (cond (!(isOddFO (sqrtFO (mulFO y (squareFO u)) y).1)) countsBO false) false)) false)))) (cond (!(sqrtFO u y).2) (cond (!(isZeroFO (sqrtFO u y).1)) false (cond (!(eqN 5 (powFO (mulFO u y) (lawPow 246 63)) (negFO (smallFO 1)))) false (cond (sqrtFO (mulFO y (squareFO u)) y).2 (cond (eqN 5 (sqrtFO (mulFO y (squareFO u)) y).1 (selectFO true u y)) (cond (!(isOddFO (sqrtFO (mulFO y (squareFO u)) y).1)) countsBO false) (cond (eqN 5 (sqrtFO (mulFO y (squareFO u)) y).1 (negFO u)) (cond (!(isOddFO (sqrtFO (mulFO y (squareFO u)) y).1)) countsBO false) false)) false))) (cond (sqrtFO (mulFO y (squareFO u)) y).2 (cond (eqN 5 (sqrtFO (mulFO y (squareFO u)) y).1 (selectFO true u y)) (cond (!(isOddFO (sqrtFO (mulFO y (squareFO u)) y).1)) countsBO false) (cond (eqN 5 (sqrtFO (mulFO y (squareFO u)) y).1 (negFO u)) (cond (!(isOddFO (sqrtFO (mulFO y (squareFO u)) y).1)) countsBO false) false)) false))))
theorem lawSquares_t (u : (Nat → Int)) (y : (Nat → Int)) : awp Try.prog o10 noG 300 (body Try.f11) (ends Try.prog Try.f11 fun v _ => okV (V.bool (lawSquares u y)) v) ⟨[(V.ints .u64 5 u), (V.ints .u64 5 y)] ++ List.replicate 89 V.un, []⟩ = (mB (isZeroFO y) (mB ((sqrtFO u y).2 == (isZeroFO u)) (mB (isZeroFO (sqrtFO u y).1) ((V.bool countsBO).den z0 = (V.bool (lawSquares u y)).den z0) ((V.bool false).den z0 = (V.bool (lawSquares u y)).den z0)) ((V.bool false).den z0 = (V.bool (lawSquares u y)).den z0)) (mB (sqrtFO u y).2 (mB (isOddFO (sqrtFO u y).1) ((V.bool false).den z0 = (V.bool (lawSquares u y)).den z0) (mB (!(eqN 5 (mulFO y (squareFO (sqrtFO u y).1)) (selectFO true u y))) ((V.bool false).den z0 = (V.bool (lawSquares u y)).den z0) (mB (!(sqrtFO u y).2) (mB (!(isZeroFO (sqrtFO u y).1)) ((V.bool false).den z0 = (V.bool (lawSquares u y)).den z0) (mB (!(eqN 5 (powFO (mulFO u y) (lawPow 246 63)) (negFO (smallFO 1)))) ((V.bool false).den z0 = (V.bool (lawSquares u y)).den z0) (mB (sqrtFO (mulFO y (squareFO u)) y).2 (mB (eqN 5 (sqrtFO (mulFO y (squareFO u)) y).1 (selectFO true u y)) (mB (!(isOddFO (sqrtFO (mulFO y (squareFO u)) y).1)) ((V.bool countsBO).den z0 = (V.bool (lawSquares u y)).den z0) ((V.bool false).den z0 = (V.bool (lawSquares u y)).den z0)) (mB (eqN 5 (sqrtFO (mulFO y (squareFO u)) y).1 (negFO u)) (mB (!(isOddFO (sqrtFO (mulFO y (squareFO u)) y).1)) ((V.bool countsBO).den z0 = (V.bool (lawSquares u y)).den z0) ((V.bool false).den z0 = (V.bool (lawSquares u y)).den z0)) ((V.bool false).den z0 = (V.bool (lawSquares u y)).den z0))) ((V.bool false).den z0 = (V.bool (lawSquares u y)).den z0)))) (mB (sqrtFO (mulFO y (squareFO u)) y).2 (mB (eqN 5 (sqrtFO (mulFO y (squareFO u)) y).1 (selectFO true u y)) (mB (!(isOddFO (sqrtFO (mulFO y (squareFO u)) y).1)) ((V.bool countsBO).den z0 = (V.bool (lawSquares u y)).den z0) ((V.bool false).den z0 = (V.bool (lawSquares u y)).den z0)) (mB (eqN 5 (sqrtFO (mulFO y (squareFO u)) y).1 (negFO u)) (mB (!(isOddFO (sqrtFO (mulFO y (squareFO u)) y).1)) ((V.bool countsBO).den z0 = (V.bool (lawSquares u y)).den z0) ((V.bool false).den z0 = (V.bool (lawSquares u y)).den z0)) ((V.bool false).den z0 = (V.bool (lawSquares u y)).den z0))) ((V.bool false).den z0 = (V.bool (lawSquares u y)).den z0))))) (mB (!(sqrtFO u y).2) (mB (!(isZeroFO (sqrtFO u y).1)) ((V.bool false).den z0 = (V.bool (lawSquares u y)).den z0) (mB (!(eqN 5 (powFO (mulFO u y) (lawPow 246 63)) (negFO (smallFO 1)))) ((V.bool false).den z0 = (V.bool (lawSquares u y)).den z0) (mB (sqrtFO (mulFO y (squareFO u)) y).2 (mB (eqN 5 (sqrtFO (mulFO y (squareFO u)) y).1 (selectFO true u y)) (mB (!(isOddFO (sqrtFO (mulFO y (squareFO u)) y).1)) ((V.bool countsBO).den z0 = (V.bool (lawSquares u y)).den z0) ((V.bool false).den z0 = (V.bool (lawSquares u y)).den z0)) (mB (eqN 5 (sqrtFO (mulFO y (squareFO u)) y).1 (negFO u)) (mB (!(isOddFO (sqrtFO (mulFO y (squareFO u)) y).1)) ((V.bool countsBO).den z0 = (V.bool (lawSquares u y)).den z0) ((V.bool false).den z0 = (V.bool (lawSquares u y)).den z0)) ((V.bool false).den z0 = (V.bool (lawSquares u y)).den z0))) ((V.bool false).den z0 = (V.bool (lawSquares u y)).den z0)))) (mB (sqrtFO (mulFO y (squareFO u)) y).2 (mB (eqN 5 (sqrtFO (mulFO y (squareFO u)) y).1 (selectFO true u y)) (mB (!(isOddFO (sqrtFO (mulFO y (squareFO u)) y).1)) ((V.bool countsBO).den z0 = (V.bool (lawSquares u y)).den z0) ((V.bool false).den z0 = (V.bool (lawSquares u y)).den z0)) (mB (eqN 5 (sqrtFO (mulFO y (squareFO u)) y).1 (negFO u)) (mB (!(isOddFO (sqrtFO (mulFO y (squareFO u)) y).1)) ((V.bool countsBO).den z0 = (V.bool (lawSquares u y)).den z0) ((V.bool false).den z0 = (V.bool (lawSquares u y)).den z0)) ((V.bool false).den z0 = (V.bool (lawSquares u y)).den z0))) ((V.bool false).den z0 = (V.bool (lawSquares u y)).den z0))))) := by kernel_rfl
theorem lawSquares_a (u : (Nat → Int)) (y : (Nat → Int)) : awp Try.prog o10 noG 300 (body Try.f11) (ends Try.prog Try.f11 fun v _ => okV (V.bool (lawSquares u y)) v) ⟨[(V.ints .u64 5 u), (V.ints .u64 5 y)] ++ List.replicate 89 V.un, []⟩ := by
  rw [lawSquares_t]
  refine mBt (fun h1 => ?_) (fun h1 => ?_)
  · refine mBt (fun h2 => ?_) (fun h2 => ?_)
    · refine mBt (fun h3 => ?_) (fun h3 => ?_)
      · simp only [lawSquares, h1, h2, h3, cond_true]
      · simp only [lawSquares, h1, h2, h3, cond_true, cond_false]
    · simp only [lawSquares, h1, h2, cond_true, cond_false]
  · refine mBt (fun h2 => ?_) (fun h2 => ?_)
    · refine mBt (fun h3 => ?_) (fun h3 => ?_)
      · simp only [lawSquares, h1, h2, h3, cond_true, cond_false]
      · refine mBt (fun h4 => ?_) (fun h4 => ?_)
        · simp only [lawSquares, h1, h2, h3, h4, cond_true, cond_false]
        · refine mBt (fun h5 => ?_) (fun h5 => ?_)
          · refine mBt (fun h6 => ?_) (fun h6 => ?_)
            · simp [h2] at h5
            · refine mBt (fun h7 => ?_) (fun h7 => ?_)
              · simp [h2] at h5
              · refine mBt (fun h8 => ?_) (fun h8 => ?_)
                · refine mBt (fun h9 => ?_) (fun h9 => ?_)
                  · refine mBt (fun h10 => ?_) (fun h10 => ?_)
                    · simp [h2] at h5
                    · simp [h2] at h5
                  · refine mBt (fun h10 => ?_) (fun h10 => ?_)
                    · refine mBt (fun h11 => ?_) (fun h11 => ?_)
                      · simp [h2] at h5
                      · simp [h2] at h5
                    · simp [h2] at h5
                · simp [h2] at h5
          · refine mBt (fun h6 => ?_) (fun h6 => ?_)
            · refine mBt (fun h7 => ?_) (fun h7 => ?_)
              · refine mBt (fun h8 => ?_) (fun h8 => ?_)
                · simp only [lawSquares, h1, h2, h3, h4, h6, h7, h8, cond_true, cond_false, Bool.not_true]
                · simp only [lawSquares, h1, h2, h3, h4, h6, h7, h8, cond_true, cond_false, Bool.not_true]
              · refine mBt (fun h8 => ?_) (fun h8 => ?_)
                · refine mBt (fun h9 => ?_) (fun h9 => ?_)
                  · simp only [lawSquares, h1, h2, h3, h4, h6, h7, h8, h9, cond_true, cond_false, Bool.not_true]
                  · simp only [lawSquares, h1, h2, h3, h4, h6, h7, h8, h9, cond_true, cond_false, Bool.not_true]
                · simp only [lawSquares, h1, h2, h3, h4, h6, h7, h8, cond_true, cond_false, Bool.not_true]
            · simp only [lawSquares, h1, h2, h3, h4, h6, cond_true, cond_false, Bool.not_true]
    · refine mBt (fun h3 => ?_) (fun h3 => ?_)
      · refine mBt (fun h4 => ?_) (fun h4 => ?_)
        · simp only [lawSquares, h1, h2, h4, cond_true, cond_false, Bool.not_false]
        · refine mBt (fun h5 => ?_) (fun h5 => ?_)
          · simp only [lawSquares, h1, h2, h4, h5, cond_true, cond_false, Bool.not_false]
          · refine mBt (fun h6 => ?_) (fun h6 => ?_)
            · refine mBt (fun h7 => ?_) (fun h7 => ?_)
              · refine mBt (fun h8 => ?_) (fun h8 => ?_)
                · simp only [lawSquares, h1, h2, h4, h5, h6, h7, h8, cond_true, cond_false, Bool.not_false]
                · simp only [lawSquares, h1, h2, h4, h5, h6, h7, h8, cond_true, cond_false, Bool.not_false]
              · refine mBt (fun h8 => ?_) (fun h8 => ?_)
                · refine mBt (fun h9 => ?_) (fun h9 => ?_)
                  · simp only [lawSquares, h1, h2, h4, h5, h6, h7, h8, h9, cond_true, cond_false, Bool.not_false]
                  · simp only [lawSquares, h1, h2, h4, h5, h6, h7, h8, h9, cond_true, cond_false, Bool.not_false]
                · simp only [lawSquares, h1, h2, h4, h5, h6, h7, h8, cond_true, cond_false, Bool.not_false]
            · simp only [lawSquares, h1, h2, h4, h5, h6, cond_false, Bool.not_false, cond_true]
      · refine mBt (fun h4 => ?_) (fun h4 => ?_)
        · refine mBt (fun h5 => ?_) (fun h5 => ?_)
          · refine mBt (fun h6 => ?_) (fun h6 => ?_)
            · simp [h2] at h3
            · simp [h2] at h3
          · refine mBt (fun h6 => ?_) (fun h6 => ?_)
            · refine mBt (fun h7 => ?_) (fun h7 => ?_)
              · simp [h2] at h3
              · simp [h2] at h3
            · simp [h2] at h3
        · simp [h2] at h3
noncomputable def g11 : List V → Option (Bool × V) := fun | [.ints .u64 5 u, .ints .u64 5 y] => some (true, (V.bool (lawSquares u y))) | _ => none
theorem lawSquares_p (u : (Nat → Int)) (y : (Nat → Int)) : (∀ μ μ', V.den μ' (V.bool (lawSquares u y)) = V.den μ (V.bool (lawSquares u y))) ∧ ∀ μ w, PureAt Try.prog 11 (([(V.ints .u64 5 u), (V.ints .u64 5 y)] : List V).map (V.den μ)).toArray (V.den μ (V.bool (lawSquares u y))) w :=
  pure_ok (F := o10) (N := 300) (fn := Try.f11) (args := [(V.ints .u64 5 u), (V.ints .u64 5 y)]) (r := (V.bool (lawSquares u y))) (n := 89) hM o10_ok (noG_ok _) Try.func11 (by kernel_rfl) (by kernel_rfl) (by kernel_rfl) (by kernel_rfl) (lawSquares_a u y) (by kernel_rfl)
theorem g11_ok (vs : List V) (v : V) (h : g11 vs = some (true, v)) : (∀ μ μ', v.den μ' = v.den μ) ∧ ∀ μ w, PureAt Try.prog 11 (vs.map (V.den μ)).toArray (v.den μ) w := by
  unfold g11 at h
  split at h
  · simp only [Option.some.injEq, Prod.mk.injEq, true_and] at h
    subst h
    exact lawSquares_p _ _
  · simp at h
noncomputable def o11 : Orc := ext 11 g11 o10
theorem o11_ok : OrcOK Try.prog o11 := ext_ok o10_ok g11_ok
end Go.Proofs.Ytbnclikjbnfodaa

namespace Go.Proofs.Ytbnclikjbnfodaa
open Go.Ev
/- field.FromBytes -/
def fromBytesF (b : (Nat → Int)) : (Nat → Int) := (reduceF (L [(orI .u64 (orI .u64 (orI .u64 (orI .u64 (orI .u64 (orI .u64 (orI .u64 0 (andI .u64 (shlI .u64 (IntKind.wrap .u64 (b 0)) 0) 2251799813685247)) (andI .u64 (shlI .u64 (IntKind.wrap .u64 (b 1)) 8) 2251799813685247)) (andI .u64 (shlI .u64 (IntKind.wrap .u64 (b 2)) 16) 2251799813685247)) (andI .u64 (shlI .u64 (IntKind.wrap .u64 (b 3)) 24) 2251799813685247)) (andI .u64 (shlI .u64 (IntKind.wrap .u64 (b 4)) 32) 2251799813685247)) (andI .u64 (shlI .u64 (IntKind.wrap .u64 (b 5)) 40) 2251799813685247)) (andI .u64 (shlI .u64 (IntKind.wrap .u64 (b 6)) 48) 2251799813685247)), (orI .u64 (orI .u64 (orI .u64 (orI .u64 (orI .u64 (orI .u64 (orI .u64 0 (shrI .u64 (IntKind.wrap .u64 (b 6)) 3)) (andI .u64 (shlI .u64 (IntKind.wrap .u64 (b 7)) 5) 2251799813685247)) (andI .u64 (shlI .u64 (IntKind.wrap .u64 (b 8)) 13) 2251799813685247)) (andI .u64 (shlI .u64 (IntKind.wrap .u64 (b 9)) 21) 2251799813685247)) (andI .u64 (shlI .u64 (IntKind.wrap .u64 (b 10)) 29) 2251799813685247)) (andI .u64 (shlI .u64 (IntKind.wrap .u64 (b 11)) 37) 2251799813685247)) (andI .u64 (shlI .u64 (IntKind.wrap .u64 (b 12)) 45) 2251799813685247)), (orI .u64 (orI .u64 (orI .u64 (orI .u64 (orI .u64 (orI .u64 (orI .u64 (orI .u64 0 (shrI .u64 (IntKind.wrap .u64 (b 12)) 6)) (andI .u64 (shlI .u64 (IntKind.wrap .u64 (b 13)) 2) 2251799813685247)) (andI .u64 (shlI .u64 (IntKind.wrap .u64 (b 14)) 10) 2251799813685247)) (andI .u64 (shlI .u64 (IntKind.wrap .u64 (b 15)) 18) 2251799813685247)) (andI .u64 (shlI .u64 (IntKind.wrap .u64 (b 16)) 26) 2251799813685247)) (andI .u64 (shlI .u64 (IntKind.wrap .u64 (b 17)) 34) 2251799813685247)) (andI .u64 (shlI .u64 (IntKind.wrap .u64 (b 18)) 42) 2251799813685247)) (andI .u64 (shlI .u64 (IntKind.wrap .u64 (b 19)) 50) 2251799813685247)), (orI .u64 (orI .u64 (orI .u64 (orI .u64 (orI .u64 (orI .u64 (orI .u64 0 (shrI .u64 (IntKind.wrap .u64 (b 19)) 1)) (andI .u64 (shlI .u64 (IntKind.wrap .u64 (b 20)) 7) 2251799813685247)) (andI .u64 (shlI .u64 (IntKind.wrap .u64 (b 21)) 15) 2251799813685247)) (andI .u64 (shlI .u64 (IntKind.wrap .u64 (b 22)) 23) 2251799813685247)) (andI .u64 (shlI .u64 (IntKind.wrap .u64 (b 23)) 31) 2251799813685247)) (andI .u64 (shlI .u64 (IntKind.wrap .u64 (b 24)) 39) 2251799813685247)) (andI .u64 (shlI .u64 (IntKind.wrap .u64 (b 25)) 47) 2251799813685247)), (orI .u64 (orI .u64 (orI .u64 (orI .u64 (orI .u64 (orI .u64 (orI .u64 0 (shrI .u64 (IntKind.wrap .u64 (b 25)) 4)) (andI .u64 (shlI .u64 (IntKind.wrap .u64 (b 26)) 4) 2251799813685247)) (andI .u64 (shlI .u64 (IntKind.wrap .u64 (b 27)) 12) 2251799813685247)) (andI .u64 (shlI .u64 (IntKind.wrap .u64 (b 28)) 20) 2251799813685247)) (andI .u64 (shlI .u64 (IntKind.wrap .u64 (b 29)) 28) 2251799813685247)) (andI .u64 (shlI .u64 (IntKind.wrap .u64 (b 30)) 36) 2251799813685247)) (andI .u64 (shlI .u64 (IntKind.wrap .u64 (andI .u8 (b 31) 127)) 44) 2251799813685247))]))
theorem fromBytesF_t (b : (Nat → Int)) : awp Try.prog o27 noG 300 (body Try.f35) (ends Try.prog Try.f35 fun v _ => okV (V.ints .u64 5 (fromBytesF b)) v) ⟨[(V.ints .u8 32 b)] ++ List.replicate 52 V.un, []⟩ = ((V.ints .u64 5 (fromBytesF b)).den z0 = (V.ints .u64 5 (fromBytesF b)).den z0) := by kernel_rfl
theorem fromBytesF_a (b : (Nat → Int)) : awp Try.prog o27 noG 300 (body Try.f35) (ends Try.prog Try.f35 fun v _ => okV (V.ints .u64 5 (fromBytesF b)) v) ⟨[(V.ints .u8 32 b)] ++ List.replicate 52 V.un, []⟩ := by rw [fromBytesF_t]
def g35 : List V → Option (Bool × V) := fun | [.ints .u8 32 b] => some (true, (V.ints .u64 5 (fromBytesF b))) | _ => none
theorem fromBytesF_p (b : (Nat → Int)) : (∀ μ μ', V.den μ' (V.ints .u64 5 (fromBytesF b)) = V.den μ (V.ints .u64 5 (fromBytesF b))) ∧ ∀ μ w, PureAt Try.prog 35 (([(V.ints .u8 32 b)] : List V).map (V.den μ)).toArray (V.den μ (V.ints .u64 5 (fromBytesF b))) w :=
  pure_ok (F := o27) (N := 300) (fn := Try.f35) (args := [(V.ints .u8 32 b)]) (r := (V.ints .u64 5 (fromBytesF b))) (n := 52) hM o27_ok (noG_ok _) Try.func35 (by kernel_rfl) (by kernel_rfl) (by kernel_rfl) (by kernel_rfl) (fromBytesF_a b) (by kernel_rfl)
theorem g35_ok (vs : List V) (v : V) (h : g35 vs = some (true, v)) : (∀ μ μ', v.den μ' = v.den μ) ∧ ∀ μ w, PureAt Try.prog 35 (vs.map (V.den μ)).toArray (v.den μ) w := by
  unfold g35 at h
  split at h
  · simp only [Option.some.injEq, Prod.mk.injEq, true_and] at h
    subst h
    exact fromBytesF_p _
  · simp at h
def o35 : Orc := ext 35 g35 o27
theorem o35_ok : OrcOK Try.prog o35 := ext_ok o27_ok g35_ok

/- field.Bytes -/
def bytesF (x : Nat → Int) : Nat → Int := fun i => IntKind.wrap .u8 (bif (Nat.blt 43 (8 * i % 51) && Nat.blt (8 * i / 51) 4) then orI .u64 (shrI .u64 (reduceF x (8 * i / 51)) ((8 * i % 51 : Nat) : Int)) (shlI .u64 (reduceF x (8 * i / 51 + 1)) ((51 - 8 * i % 51 : Nat) : Int)) else shrI .u64 (reduceF x (8 * i / 51)) ((8 * i % 51 : Nat) : Int))
theorem bytesF_t (x : (Nat → Int)) : awp Try.prog o35 noG 300 (body Try.f39) (ends Try.prog Try.f39 fun v _ => okV (V.ints .u8 32 (bytesF x)) v) ⟨[(V.ints .u64 5 x)] ++ List.replicate 44 V.un, []⟩ = ((V.ints .u8 32 (bytesF x)).den z0 = (V.ints .u8 32 (bytesF x)).den z0) := by kernel_rfl
theorem bytesF_a (x : (Nat → Int)) : awp Try.prog o35 noG 300 (body Try.f39) (ends Try.prog Try.f39 fun v _ => okV (V.ints .u8 32 (bytesF x)) v) ⟨[(V.ints .u64 5 x)] ++ List.replicate 44 V.un, []⟩ := by rw [bytesF_t]
def g39 : List V → Option (Bool × V) := fun | [.ints .u64 5 x] => some (true, (V.ints .u8 32 (bytesF x))) | _ => none
theorem bytesF_p (x : (Nat → Int)) : (∀ μ μ', V.den μ' (V.ints .u8 32 (bytesF x)) = V.den μ (V.ints .u8 32 (bytesF x))) ∧ ∀ μ w, PureAt Try.prog 39 (([(V.ints .u64 5 x)] : List V).map (V.den μ)).toArray (V.den μ (V.ints .u8 32 (bytesF x))) w :=
  pure_ok (F := o35) (N := 300) (fn := Try.f39) (args := [(V.ints .u64 5 x)]) (r := (V.ints .u8 32 (bytesF x))) (n := 44) hM o35_ok (noG_ok _) Try.func39 (by kernel_rfl) (by kernel_rfl) (by kernel_rfl) (by kernel_rfl) (bytesF_a x) (by kernel_rfl)
theorem g39_ok (vs : List V) (v : V) (h : g39 vs = some (true, v)) : (∀ μ μ', v.den μ' = v.den μ) ∧ ∀ μ w, PureAt Try.prog 39 (vs.map (V.den μ)).toArray (v.den μ) w := by
  unfold g39 at h
  split at h
  · simp only [Option.some.injEq, Prod.mk.injEq, true_and] at h
    subst h
    exact bytesF_p _
  · simp at h
def o39 : Orc := ext 39 g39 o35
theorem o39_ok : OrcOK Try.prog o39 := ext_ok o35_ok g39_ok

/- field.Canonical -/
def canonicalF (b : (Nat → Int)) : Bool := (eqN 32 (bytesF (fromBytesF b)) b)
theorem canonicalF_t (b : (Nat → Int)) : awp Try.prog o39 noG 300 (body Try.f37) (ends Try.prog Try.f37 fun v _ => okV (V.bool (canonicalF b)) v) ⟨[(V.ints .u8 32 b)] ++ List.replicate 7 V.un, []⟩ = ((V.bool (canonicalF b)).den z0 = (V.bool (canonicalF b)).den z0) := by kernel_rfl
theorem canonicalF_a (b : (Nat → Int)) : awp Try.prog o39 noG 300 (body Try.f37) (ends Try.prog Try.f37 fun v _ => okV (V.bool (canonicalF b)) v) ⟨[(V.ints .u8 32 b)] ++ List.replicate 7 V.un, []⟩ := by rw [canonicalF_t]
def g37 : List V → Option (Bool × V) := fun | [.ints .u8 32 b] => some (true, (V.bool (canonicalF b))) | _ => none
theorem canonicalF_p (b : (Nat → Int)) : (∀ μ μ', V.den μ' (V.bool (canonicalF b)) = V.den μ (V.bool (canonicalF b))) ∧ ∀ μ w, PureAt Try.prog 37 (([(V.ints .u8 32 b)] : List V).map (V.den μ)).toArray (V.den μ (V.bool (canonicalF b))) w :=
  pure_ok (F := o39) (N := 300) (fn := Try.f37) (args := [(V.ints .u8 32 b)]) (r := (V.bool (canonicalF b))) (n := 7) hM o39_ok (noG_ok _) Try.func37 (by kernel_rfl) (by kernel_rfl) (by kernel_rfl) (by kernel_rfl) (canonicalF_a b) (by kernel_rfl)
theorem g37_ok (vs : List V) (v : V) (h : g37 vs = some (true, v)) : (∀ μ μ', v.den μ' = v.den μ) ∧ ∀ μ w, PureAt Try.prog 37 (vs.map (V.den μ)).toArray (v.den μ) w := by
  unfold g37 at h
  split at h
  · simp only [Option.some.injEq, Prod.mk.injEq, true_and] at h
    subst h
    exact canonicalF_p _
  · simp at h
def o37 : Orc := ext 37 g37 o39
theorem o37_ok : OrcOK Try.prog o37 := ext_ok o39_ok g37_ok
end Go.Proofs.Ytbnclikjbnfodaa

namespace Go.Proofs.Ytbnclikjbnfodaa
open Go.Ev
theorem rFromBytes_h (b : (Nat → Int)) (N : Nat) (K : V → List V → Prop) : awp Try.prog o37 noG N (body Try.f36) (ends Try.prog Try.f36 K) ⟨[(V.ints .u8 32 b)] ++ List.replicate 32 V.un, []⟩ = lp (awp Try.prog o37 noG N (loopOf (body Try.f36))) (spineQ Try.prog o37 noG N (body Try.f36) (ends Try.prog Try.f36 K)) N ⟨[(V.ints .u8 32 b), (V.ptr 0 0), (V.ptr 1 0), (V.ptr 2 0), (V.int .i64 0), V.un, V.un, V.un, V.un, V.un, V.un, V.un, V.un, V.un, V.un, V.un, V.un, V.un, V.un, V.un, V.un, V.un, V.un, V.un, V.un, V.un, V.un, V.un, V.un, V.un, V.un, V.un, V.un], [(V.ints .u8 32 b), (V.ints .u64 10 (fun _ => 0)), (V.ints .u64 10 (fun _ => 0))]⟩ := by kernel_rfl
theorem rFromBytes_s (b : (Nat → Int)) (a : Nat → Int) (i : Int) (t5 t6 t7 t8 t9 t10 t11 t12 t13 t14 t15 t16 t17 t18 t19 t20 t21 t22 t23 t24 t25 t26 t27 t28 t29 t30 : V) (Q : Exit → St → Prop) (n : Nat) : lp (awp Try.prog o37 noG 300 (loopOf (body Try.f36))) Q (n + 1) ⟨[(V.ints .u8 32 b), (V.ptr 0 0), (V.ptr 1 0), (V.ptr 2 0), (V.int .i64 i), t5, t6, t7, t8, t9, t10, t11, t12, t13, t14, t15, t16, t17, t18, t19, t20, t21, t22, t23, t24, t25, t26, t27, t28, t29, t30, V.un, V.un], [(V.ints .u8 32 b), (V.ints .u64 10 (fun _ => 0)), (V.ints .u64 10 a)]⟩ = (mB (decide (i < 255)) (gB (decide (0 ≤ (quoI .i64 i 8) ∧ (quoI .i64 i 8) < 32)) (gB (Nat.blt (0 + (Int.toNat (quoI .i64 i 8) * 1)) 32) (gB (decide (0 ≤ (remI i 8))) (gB (decide (0 ≤ (quoI .i64 i 26) ∧ (quoI .i64 i 26) < 10)) (gB (Nat.blt (0 + (Int.toNat (quoI .i64 i 26) * 1)) 10) (gB (decide (0 ≤ (remI i 26))) (gB (decide (0 ≤ (quoI .i64 i 26) ∧ (quoI .i64 i 26) < 10)) (gB (Nat.blt (0 + (Int.toNat (quoI .i64 i 26) * 1)) 10) (lp (awp Try.prog o37 noG 300 (loopOf (body Try.f36))) Q n ⟨[(V.ints .u8 32 b), (V.ptr 0 0), (V.ptr 1 0), (V.ptr 2 0), (V.int .i64 (addI .i64 i 1)), (V.int .u64 (IntKind.wrap .u64 (andI .u8 (shrI .u8 (b (0 + (Int.toNat (quoI .i64 i 8) * 1))) (remI i 8)) 1))), (V.int .i64 i), (V.bool (decide (i < 255))), (V.int .i64 i), (V.int .i64 (addI .i64 i 1)), (V.int .i64 i), (V.int .i64 (quoI .i64 i 8)), (V.ptr 0 (0 + (Int.toNat (quoI .i64 i 8) * 1))), (V.int .u8 (b (0 + (Int.toNat (quoI .i64 i 8) * 1)))), (V.int .i64 i), (V.int .i64 (remI i 8)), (V.int .u8 (shrI .u8 (b (0 + (Int.toNat (quoI .i64 i 8) * 1))) (remI i 8))), (V.int .u8 (andI .u8 (shrI .u8 (b (0 + (Int.toNat (quoI .i64 i 8) * 1))) (remI i 8)) 1)), (V.int .u64 (IntKind.wrap .u64 (andI .u8 (shrI .u8 (b (0 + (Int.toNat (quoI .i64 i 8) * 1))) (remI i 8)) 1))), (V.int .i64 i), (V.int .i64 (quoI .i64 i 26)), (V.int .i64 i), (V.int .i64 (quoI .i64 i 26)), (V.ptr 2 (0 + (Int.toNat (quoI .i64 i 26) * 1))), (V.int .u64 (a (0 + (Int.toNat (quoI .i64 i 26) * 1)))), (V.int .u64 (IntKind.wrap .u64 (andI .u8 (shrI .u8 (b (0 + (Int.toNat (quoI .i64 i 8) * 1))) (remI i 8)) 1))), (V.int .i64 i), (V.int .i64 (remI i 26)), (V.int .u64 (shlI .u64 (IntKind.wrap .u64 (andI .u8 (shrI .u8 (b (0 + (Int.toNat (quoI .i64 i 8) * 1))) (remI i 8)) 1)) (remI i 26))), (V.int .u64 (addI .u64 (a (0 + (Int.toNat (quoI .i64 i 26) * 1))) (shlI .u64 (IntKind.wrap .u64 (andI .u8 (shrI .u8 (b (0 + (Int.toNat (quoI .i64 i 8) * 1))) (remI i 8)) 1)) (remI i 26)))), (V.ptr 2 (0 + (Int.toNat (quoI .i64 i 26) * 1))), V.un, V.un], [(V.ints .u8 32 b), (V.ints .u64 10 (fun _ => 0)), (V.ints .u64 10 (up (0 + (Int.toNat (quoI .i64 i 26) * 1)) (addI .u64 (a (0 + (Int.toNat (quoI .i64 i 26) * 1))) (shlI .u64 (IntKind.wrap .u64 (andI .u8 (shrI .u8 (b (0 + (Int.toNat (quoI .i64 i 8) * 1))) (remI i 8)) 1)) (remI i 26))) a))]⟩))))))))) (Q (.exit 0) ⟨[(V.ints .u8 32 b), (V.ptr 0 0), (V.ptr 1 0), (V.ptr 2 0), (V.int .i64 i), t5, (V.int .i64 i), (V.bool (decide (i < 255))), t8, t9, t10, t11, t12, t13, t14, t15, t16, t17, t18, t19, t20, t21, t22, t23, t24, t25, t26, t27, t28, t29, t30, V.un, V.un], [(V.ints .u8 32 b), (V.ints .u64 10 (fun _ => 0)), (V.ints .u64 10 a)]⟩)) := by kernel_rfl
theorem rFromBytes_x (b : (Nat → Int)) (a : Nat → Int) (i : Int) (t5 t6 t7 t8 t9 t10 t11 t12 t13 t14 t15 t16 t17 t18 t19 t20 t21 t22 t23 t24 t25 t26 t27 t28 t29 t30 : V) (R : V) : spineQ Try.prog o37 noG 300 (body Try.f36) (ends Try.prog Try.f36 fun v _ => okV R v) (.exit 0) ⟨[(V.ints .u8 32 b), (V.ptr 0 0), (V.ptr 1 0), (V.ptr 2 0), (V.int .i64 i), t5, t6, t7, t8, t9, t10, t11, t12, t13, t14, t15, t16, t17, t18, t19, t20, t21, t22, t23, t24, t25, t26, t27, t28, t29, t30, V.un, V.un], [(V.ints .u8 32 b), (V.ints .u64 10 (fun _ => 0)), (V.ints .u64 10 a)]⟩ = (okV R (V.ints .u64 10 (rLeast (l10 (a 0) (a 1) (a 2) (a 3) (a 4) (a 5) (a 6) (a 7) (a 8) (a 9))))) := by kernel_rfl

/-- The content behind one round more. -/
def rFromBytes_st (b : (Nat → Int)) (i : Int) (a : Nat → Int) : Nat → Int := (up (0 + (Int.toNat (quoI .i64 i 26) * 1)) (addI .u64 (a (0 + (Int.toNat (quoI .i64 i 26) * 1))) (shlI .u64 (IntKind.wrap .u64 (andI .u8 (shrI .u8 (b (0 + (Int.toNat (quoI .i64 i 8) * 1))) (remI i 8)) 1)) (remI i 26))) a)
def rFromBytes_it (b : (Nat → Int)) : Nat → (Nat → Int)
  | 0 => (fun _ => 0)
  | k + 1 => rFromBytes_st b (k : Int) (rFromBytes_it b k)
theorem rFromBytes_l (b : (Nat → Int)) (Q : Exit → St → Prop) (hQ : ∀ (t5 t6 t7 t8 t9 t10 t11 t12 t13 t14 t15 t16 t17 t18 t19 t20 t21 t22 t23 t24 t25 t26 t27 t28 t29 t30 : V), Q (.exit 0) ⟨[(V.ints .u8 32 b), (V.ptr 0 0), (V.ptr 1 0), (V.ptr 2 0), (V.int .i64 ((255 : Nat) : Int)), t5, t6, t7, t8, t9, t10, t11, t12, t13, t14, t15, t16, t17, t18, t19, t20, t21, t22, t23, t24, t25, t26, t27, t28, t29, t30, V.un, V.un], [(V.ints .u8 32 b), (V.ints .u64 10 (fun _ => 0)), (V.ints .u64 10 (rFromBytes_it b 255))]⟩) : ∀ (d k n : Nat), k + d = 255 → d + 1 ≤ n → ∀ (t5 t6 t7 t8 t9 t10 t11 t12 t13 t14 t15 t16 t17 t18 t19 t20 t21 t22 t23 t24 t25 t26 t27 t28 t29 t30 : V), lp (awp Try.prog o37 noG 300 (loopOf (body Try.f36))) Q n ⟨[(V.ints .u8 32 b), (V.ptr 0 0), (V.ptr 1 0), (V.ptr 2 0), (V.int .i64 (k : Int)), t5, t6, t7, t8, t9, t10, t11, t12, t13, t14, t15, t16, t17, t18, t19, t20, t21, t22, t23, t24, t25, t26, t27, t28, t29, t30, V.un, V.un], [(V.ints .u8 32 b), (V.ints .u64 10 (fun _ => 0)), (V.ints .u64 10 (rFromBytes_it b k))]⟩
  | 0, k, n, hk, hn, t5, t6, t7, t8, t9, t10, t11, t12, t13, t14, t15, t16, t17, t18, t19, t20, t21, t22, t23, t24, t25, t26, t27, t28, t29, t30 => by
    obtain ⟨n, rfl⟩ : ∃ m, n = m + 1 := ⟨n - 1, by omega⟩
    obtain rfl : k = 255 := by omega
    rw [rFromBytes_s]
    refine mBt (fun h => absurd (of_decide_eq_true h) (by simp)) (fun _ => ?_)
    exact hQ _ _ _ _ _ _ _ _ _ _ _ _ _ _ _ _ _ _ _ _ _ _ _ _ _ _
  | d + 1, k, n, hk, hn, t5, t6, t7, t8, t9, t10, t11, t12, t13, t14, t15, t16, t17, t18, t19, t20, t21, t22, t23, t24, t25, t26, t27, t28, t29, t30 => by
    obtain ⟨n, rfl⟩ : ∃ m, n = m + 1 := ⟨n - 1, by omega⟩
    have hi : (0 : Int) ≤ (k : Int) ∧ (k : Int) < 255 := by omega
    have g0 : (decide (0 ≤ (quoI .i64 (k : Int) 8) ∧ (quoI .i64 (k : Int) 8) < 32)) = true := by first | (rw [show quoI .i64 (k : Int) 8 = ((k / 8 : Nat) : Int) from quo_nat k 8 (by omega)]; exact bltT.2 (by simp; omega)) | (rw [show quoI .i64 (k : Int) 26 = ((k / 26 : Nat) : Int) from quo_nat k 26 (by omega)]; exact bltT.2 (by simp; omega)) | (rw [show quoI .i64 (k : Int) 8 = ((k / 8 : Nat) : Int) from quo_nat k 8 (by omega)]; simp; omega) | (rw [show quoI .i64 (k : Int) 26 = ((k / 26 : Nat) : Int) from quo_nat k 26 (by omega)]; simp; omega) | (rw [show remI (k : Int) 8 = ((k % 8 : Nat) : Int) from rem_nat k 8]; simp; omega) | (rw [show remI (k : Int) 26 = ((k % 26 : Nat) : Int) from rem_nat k 26]; simp; omega)
    have g1 : (Nat.blt (0 + (Int.toNat (quoI .i64 (k : Int) 8) * 1)) 32) = true := by first | (rw [show quoI .i64 (k : Int) 8 = ((k / 8 : Nat) : Int) from quo_nat k 8 (by omega)]; exact bltT.2 (by simp; omega)) | (rw [show quoI .i64 (k : Int) 26 = ((k / 26 : Nat) : Int) from quo_nat k 26 (by omega)]; exact bltT.2 (by simp; omega)) | (rw [show quoI .i64 (k : Int) 8 = ((k / 8 : Nat) : Int) from quo_nat k 8 (by omega)]; simp; omega) | (rw [show quoI .i64 (k : Int) 26 = ((k / 26 : Nat) : Int) from quo_nat k 26 (by omega)]; simp; omega) | (rw [show remI (k : Int) 8 = ((k % 8 : Nat) : Int) from rem_nat k 8]; simp; omega) | (rw [show remI (k : Int) 26 = ((k % 26 : Nat) : Int) from rem_nat k 26]; simp; omega)
    have g2 : (decide (0 ≤ (remI (k : Int) 8))) = true := by first | (rw [show quoI .i64 (k : Int) 8 = ((k / 8 : Nat) : Int) from quo_nat k 8 (by omega)]; exact bltT.2 (by simp; omega)) | (rw [show quoI .i64 (k : Int) 26 = ((k / 26 : Nat) : Int) from quo_nat k 26 (by omega)]; exact bltT.2 (by simp; omega)) | (rw [show quoI .i64 (k : Int) 8 = ((k / 8 : Nat) : Int) from quo_nat k 8 (by omega)]; simp; omega) | (rw [show quoI .i64 (k : Int) 26 = ((k / 26 : Nat) : Int) from quo_nat k 26 (by omega)]; simp; omega) | (rw [show remI (k : Int) 8 = ((k % 8 : Nat) : Int) from rem_nat k 8]; simp; omega) | (rw [show remI (k : Int) 26 = ((k % 26 : Nat) : Int) from rem_nat k 26]; simp; omega)
    have g3 : (decide (0 ≤ (quoI .i64 (k : Int) 26) ∧ (quoI .i64 (k : Int) 26) < 10)) = true := by first | (rw [show quoI .i64 (k : Int) 8 = ((k / 8 : Nat) : Int) from quo_nat k 8 (by omega)]; exact bltT.2 (by simp; omega)) | (rw [show quoI .i64 (k : Int) 26 = ((k / 26 : Nat) : Int) from quo_nat k 26 (by omega)]; exact bltT.2 (by simp; omega)) | (rw [show quoI .i64 (k : Int) 8 = ((k / 8 : Nat) : Int) from quo_nat k 8 (by omega)]; simp; omega) | (rw [show quoI .i64 (k : Int) 26 = ((k / 26 : Nat) : Int) from quo_nat k 26 (by omega)]; simp; omega) | (rw [show remI (k : Int) 8 = ((k % 8 : Nat) : Int) from rem_nat k 8]; simp; omega) | (rw [show remI (k : Int) 26 = ((k % 26 : Nat) : Int) from rem_nat k 26]; simp; omega)
    have g4 : (Nat.blt (0 + (Int.toNat (quoI .i64 (k : Int) 26) * 1)) 10) = true := by first | (rw [show quoI .i64 (k : Int) 8 = ((k / 8 : Nat) : Int) from quo_nat k 8 (by omega)]; exact bltT.2 (by simp; omega)) | (rw [show quoI .i64 (k : Int) 26 = ((k / 26 : Nat) : Int) from quo_nat k 26 (by omega)]; exact bltT.2 (by simp; omega)) | (rw [show quoI .i64 (k : Int) 8 = ((k / 8 : Nat) : Int) from quo_nat k 8 (by omega)]; simp; omega) | (rw [show quoI .i64 (k : Int) 26 = ((k / 26 : Nat) : Int) from quo_nat k 26 (by omega)]; simp; omega) | (rw [show remI (k : Int) 8 = ((k % 8 : Nat) : Int) from rem_nat k 8]; simp; omega) | (rw [show remI (k : Int) 26 = ((k % 26 : Nat) : Int) from rem_nat k 26]; simp; omega)
    have g5 : (decide (0 ≤ (remI (k : Int) 26))) = true := by first | (rw [show quoI .i64 (k : Int) 8 = ((k / 8 : Nat) : Int) from quo_nat k 8 (by omega)]; exact bltT.2 (by simp; omega)) | (rw [show quoI .i64 (k : Int) 26 = ((k / 26 : Nat) : Int) from quo_nat k 26 (by omega)]; exact bltT.2 (by simp; omega)) | (rw [show quoI .i64 (k : Int) 8 = ((k / 8 : Nat) : Int) from quo_nat k 8 (by omega)]; simp; omega) | (rw [show quoI .i64 (k : Int) 26 = ((k / 26 : Nat) : Int) from quo_nat k 26 (by omega)]; simp; omega) | (rw [show remI (k : Int) 8 = ((k % 8 : Nat) : Int) from rem_nat k 8]; simp; omega) | (rw [show remI (k : Int) 26 = ((k % 26 : Nat) : Int) from rem_nat k 26]; simp; omega)
    have hnx : (addI .i64 (k : Int) 1) = ((k + 1 : Nat) : Int) := by exact add1_nat k (by omega)
    rw [rFromBytes_s]
    refine mBt (fun _ => ?_) (fun h => absurd hi.2 (of_decide_eq_false h))
    refine gm g0 ?_
    refine gm g1 ?_
    refine gm g2 ?_
    refine gm g3 ?_
    refine gm g4 ?_
    refine gm g5 ?_
    refine gm g3 ?_
    refine gm g4 ?_
    rw [hnx]
    have h := rFromBytes_l b Q hQ d (k + 1) n (by omega) (by omega)
    simp only [rFromBytes_it, rFromBytes_st] at h
    exact h _ _ _ _ _ _ _ _ _ _ _ _ _ _ _ _ _ _ _ _ _ _ _ _ _ _

def rFromBytes (b : Nat → Int) : Nat → Int := rLeast (l10 (rFromBytes_it b 255 0) (rFromBytes_it b 255 1) (rFromBytes_it b 255 2) (rFromBytes_it b 255 3) (rFromBytes_it b 255 4) (rFromBytes_it b 255 5) (rFromBytes_it b 255 6) (rFromBytes_it b 255 7) (rFromBytes_it b 255 8) (rFromBytes_it b 255 9))
theorem rFromBytes_a (b : (Nat → Int)) : awp Try.prog o37 noG 300 (body Try.f36) (ends Try.prog Try.f36 fun v _ => okV (V.ints .u64 10 (rFromBytes b)) v) ⟨[(V.ints .u8 32 b)] ++ List.replicate 32 V.un, []⟩ := by
  rw [rFromBytes_h]
  exact rFromBytes_l b _ (fun _ _ _ _ _ _ _ _ _ _ _ _ _ _ _ _ _ _ _ _ _ _ _ _ _ _ => by rw [rFromBytes_x]; exact okV_refl rfl) 255 0 300 (by omega) (by omega) _ _ _ _ _ _ _ _ _ _ _ _ _ _ _ _ _ _ _ _ _ _ _ _ _ _

def g36 : List V → Option (Bool × V) := fun | [.ints .u8 32 b] => some (true, (V.ints .u64 10 (rFromBytes b))) | _ => none
theorem rFromBytes_p (b : (Nat → Int)) : (∀ μ μ', V.den μ' (V.ints .u64 10 (rFromBytes b)) = V.den μ (V.ints .u64 10 (rFromBytes b))) ∧ ∀ μ w, PureAt Try.prog 36 (([(V.ints .u8 32 b)] : List V).map (V.den μ)).toArray (V.den μ (V.ints .u64 10 (rFromBytes b))) w :=
  pure_ok (F := o37) (N := 300) (fn := Try.f36) (args := [(V.ints .u8 32 b)]) (r := (V.ints .u64 10 (rFromBytes b))) (n := 32) hM o37_ok (noG_ok _) Try.func36 (by kernel_rfl) (by kernel_rfl) (by kernel_rfl) (by kernel_rfl) (rFromBytes_a b) (by kernel_rfl)
theorem g36_ok (vs : List V) (v : V) (h : g36 vs = some (true, v)) : (∀ μ μ', v.den μ' = v.den μ) ∧ ∀ μ w, PureAt Try.prog 36 (vs.map (V.den μ)).toArray (v.den μ) w := by
  unfold g36 at h
  split at h
  · simp only [Option.some.injEq, Prod.mk.injEq, true_and] at h
    subst h
    exact rFromBytes_p _
  · simp at h
def o36 : Orc := ext 36 g36 o37
theorem o36_ok : OrcOK Try.prog o36 := ext_ok o37_ok g36_ok
end Go.Proofs.Ytbnclikjbnfodaa

/-
  Digits: the number of a row of digits, carries, borrows, comparison. Plain. Conditions: none.
-/
namespace Go.Num

/-- The number of the first n digits to the base B, the lowest first. -/
def dv (B : Int) : Nat → (Nat → Int) → Int
  | 0, _ => 0
  | n + 1, a => a 0 + B * dv B n fun i => a (i + 1)
def pw (B : Int) : Nat → Int
  | 0 => 1
  | n + 1 => B * pw B n

theorem sm' (x : Int) (h0 : 0 ≤ x) (h1 : x < 18446744073709551616) : x % 18446744073709551616 = x := Int.emod_eq_of_lt h0 h1
theorem pw_pos {B : Int} (hB : 0 < B) : ∀ n, 0 < pw B n
  | 0 => by simp [pw]
  | n + 1 => Int.mul_pos hB (pw_pos hB n)

theorem dv_congr {B : Int} : ∀ {n : Nat} {a b : Nat → Int}, (∀ i, i < n → a i = b i) → dv B n a = dv B n b
  | 0, _, _, _ => rfl
  | n + 1, a, b, h => by
    simp only [dv]
    rw [h 0 (by omega), dv_congr (a := fun i => a (i + 1)) (b := fun i => b (i + 1)) fun i hi => h (i + 1) (by omega)]

theorem dv_add {B : Int} : ∀ {n : Nat} {a b : Nat → Int}, dv B n (fun i => a i + b i) = dv B n a + dv B n b
  | 0, _, _ => rfl
  | n + 1, a, b => by
    simp only [dv]
    rw [dv_add (a := fun i => a (i + 1)) (b := fun i => b (i + 1)), Int.mul_add]; omega
theorem dv_mul {B c : Int} : ∀ {n : Nat} {a : Nat → Int}, dv B n (fun i => c * a i) = c * dv B n a
  | 0, _ => by simp [dv]
  | n + 1, a => by
    simp only [dv]
    rw [dv_mul (a := fun i => a (i + 1)), Int.mul_add, Int.mul_left_comm]
theorem dv_zero {B : Int} : ∀ {n : Nat}, dv B n (fun _ => 0) = 0
  | 0 => rfl
  | n + 1 => by simp only [dv]; rw [dv_zero]; simp
/-- The topmost digit split off. -/
theorem dv_top {B : Int} : ∀ {n : Nat} {a : Nat → Int}, dv B (n + 1) a = dv B n a + pw B n * a n
  | 0, a => by simp [dv, pw]
  | n + 1, a => by
    rw [dv, dv_top, dv, pw]
    rw [Int.mul_add, Int.mul_assoc]; omega
theorem dv_split {B : Int} {m : Nat} : ∀ {n : Nat} {a : Nat → Int}, dv B (n + m) a = dv B n a + pw B n * dv B m fun i => a (n + i)
  | 0, a => by simp [dv, pw]
  | n + 1, a => by
    rw [show n + 1 + m = (n + m) + 1 by omega, dv, dv_split, dv, pw]
    rw [Int.mul_add, Int.mul_assoc, show (fun i => a (n + i + 1)) = (fun i => a (n + 1 + i)) from funext fun i => by congr 1; omega]; omega

theorem dv_bound {B : Int} (hB : 0 < B) : ∀ {n : Nat} {a : Nat → Int}, (∀ i, i < n → 0 ≤ a i ∧ a i < B) → 0 ≤ dv B n a ∧ dv B n a < pw B n
  | 0, _, _ => by simp [dv, pw]
  | n + 1, a, h => by
    have h0 := h 0 (by omega)
    obtain ⟨i0, i1⟩ := dv_bound hB (a := fun i => a (i + 1)) (n := n) fun i hi => h (i + 1) (by omega)
    simp only [dv, pw]
    refine ⟨Int.add_nonneg h0.1 (Int.mul_nonneg (by omega) i0), ?_⟩
    have h2 : dv B n (fun i => a (i + 1)) + 1 ≤ pw B n := by omega
    have h3 := Int.mul_le_mul_of_nonneg_left h2 (by omega : 0 ≤ B)
    rw [Int.mul_add] at h3
    omega

theorem dv_inj {B : Int} (hB : 0 < B) : ∀ {n : Nat} {a b : Nat → Int}, (∀ i, i < n → 0 ≤ a i ∧ a i < B) → (∀ i, i < n → 0 ≤ b i ∧ b i < B) → dv B n a = dv B n b → ∀ i, i < n → a i = b i
  | 0, _, _, _, _, _, i, hi => by omega
  | n + 1, a, b, ha, hb, h, i, hi => by
    simp only [dv] at h
    have a0 := ha 0 (by omega)
    have b0 := hb 0 (by omega)
    have e : a 0 = b 0 := by
      have h1 := congrArg (· % B) h
      simp only [Int.add_mul_emod_self_left] at h1
      rwa [Int.emod_eq_of_lt a0.1 a0.2, Int.emod_eq_of_lt b0.1 b0.2] at h1
    rw [e] at h
    have h2 : B * dv B n (fun i => a (i + 1)) = B * dv B n (fun i => b (i + 1)) := by omega
    have h3 := Int.eq_of_mul_eq_mul_left (by omega) h2
    cases i with
    | zero => exact e
    | succ i => exact dv_inj hB (a := fun i => a (i + 1)) (b := fun i => b (i + 1)) (fun i hi => ha (i + 1) (by omega)) (fun i hi => hb (i + 1) (by omega)) h3 i (by omega)

/-- Carries: c is the chain, o what stays; t comes in at the lowest. -/
theorem dv_carry {B : Int} : ∀ {n : Nat} {a c o : Nat → Int} {t : Int}, c 0 = a 0 + t → (∀ i, i < n → c (i + 1) = a (i + 1) + c i / B) → (∀ i, i < n → o i = c i % B) → o n = c n → dv B (n + 1) o = dv B (n + 1) a + t
  | 0, a, c, o, t, h0, _, _, ho => by simp only [dv]; rw [ho, h0]; omega
  | n + 1, a, c, o, t, h0, hs, ho, hn => by
    have ih := dv_carry (B := B) (n := n) (a := fun i => a (i + 1)) (c := fun i => c (i + 1)) (o := fun i => o (i + 1)) (t := c 0 / B) (hs 0 (by omega)) (fun i hi => hs (i + 1) (by omega)) (fun i hi => ho (i + 1) (by omega)) hn
    have e1 : dv B (n + 1 + 1) o = o 0 + B * dv B (n + 1) (fun i => o (i + 1)) := rfl
    have e2 : dv B (n + 1 + 1) a = a 0 + B * dv B (n + 1) (fun i => a (i + 1)) := rfl
    rw [e1, e2, ih, ho 0 (by omega), Int.mul_add]
    have := Int.emod_add_mul_ediv (c 0) B
    omega

/-- Borrows: d is the difference at a digit with the base lent, u what is owed. -/
theorem dv_borrow {B : Int} (hB : 0 < B) : ∀ {n : Nat} {a b d u o : Nat → Int}, (∀ i, i < n → d i = a i + B - b i - u i) → (∀ i, i < n → u (i + 1) = 1 - d i / B) → (∀ i, i < n → o i = d i % B) → dv B n o = dv B n a - dv B n b - u 0 + pw B n * u n
  | 0, a, b, d, u, o, _, _, _ => by simp only [dv, pw]; omega
  | n + 1, a, b, d, u, o, hd, hu, ho => by
    have ih := dv_borrow hB (n := n) (a := fun i => a (i + 1)) (b := fun i => b (i + 1)) (d := fun i => d (i + 1)) (u := fun i => u (i + 1)) (o := fun i => o (i + 1)) (fun i hi => hd (i + 1) (by omega)) (fun i hi => hu (i + 1) (by omega)) (fun i hi => ho (i + 1) (by omega))
    simp only [dv, pw]
    rw [ih, ho 0 (by omega)]
    have h1 := Int.emod_add_mul_ediv (d 0) B
    have h2 := hd 0 (by omega)
    have h3 := hu 0 (by omega)
    rw [Nat.zero_add] at h3
    simp only [Nat.zero_add]
    have h4 : B * (dv B n (fun i => a (i + 1)) - dv B n (fun i => b (i + 1)) - u 1 + pw B n * u (n + 1)) = B * dv B n (fun i => a (i + 1)) - B * dv B n (fun i => b (i + 1)) - B * u 1 + B * pw B n * u (n + 1) := by grind
    have h5 : B * u 1 = B - B * (d 0 / B) := by rw [h3]; grind
    omega

/-- Is a below b, from the topmost digit down? -/
def ltB (a b : Nat → Int) : Nat → Bool
  | 0 => false
  | n + 1 => cond (a n != b n) (decide (a n < b n)) (ltB a b n)

theorem ltB_spec {B : Int} (hB : 0 < B) : ∀ {n : Nat} {a b : Nat → Int}, (∀ i, i < n → 0 ≤ a i ∧ a i < B) → (∀ i, i < n → 0 ≤ b i ∧ b i < B) → ltB a b n = decide (dv B n a < dv B n b)
  | 0, _, _, _, _ => by simp [ltB, dv]
  | n + 1, a, b, ha, hb => by
    have ih := ltB_spec hB (n := n) (a := a) (b := b) (fun i hi => ha i (by omega)) (fun i hi => hb i (by omega))
    obtain ⟨a0, a1⟩ := dv_bound hB (n := n) (a := a) (fun i hi => ha i (by omega))
    obtain ⟨b0, b1⟩ := dv_bound hB (n := n) (a := b) (fun i hi => hb i (by omega))
    rw [dv_top, dv_top, ltB, ih]
    have hp := pw_pos hB n
    by_cases h : a n = b n
    · rw [h]; simp
    · have hne : (a n != b n) = true := by simpa using h
      rw [hne, cond_true]
      by_cases hlt : a n < b n
      · have : pw B n * (a n + 1) ≤ pw B n * b n := Int.mul_le_mul_of_nonneg_left (by omega) (by omega)
        rw [Int.mul_add] at this
        have h2 : dv B n a + pw B n * a n < dv B n b + pw B n * b n := by omega
        simp [hlt, h2]
      · have : pw B n * (b n + 1) ≤ pw B n * a n := Int.mul_le_mul_of_nonneg_left (by omega) (by omega)
        rw [Int.mul_add] at this
        have h2 : ¬ dv B n a + pw B n * a n < dv B n b + pw B n * b n := by omega
        simp [hlt, h2]

end Go.Num
