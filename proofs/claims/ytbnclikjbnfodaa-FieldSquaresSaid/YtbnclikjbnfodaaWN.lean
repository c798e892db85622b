import Derived.Test.YtbnclikjbnfodaaWM
import Derived.Test.YtbnclikjbnfodaaRows
namespace Go.Proofs.Ytbnclikjbnfodaa
open Go.Ev
theorem rPow_h (a0 : (Nat → Int)) (e : (Nat → Int)) (N : Nat) (K : V → List V → Prop) : awp Try.prog o46 noG N (body Try.f47) (ends Try.prog Try.f47 K) ⟨[(V.ints .u64 10 a0), (V.ints .u8 32 e)] ++ List.replicate 26 V.un, []⟩ = lp (awp Try.prog o46 noG N (loopOf (body Try.f47))) (spineQ Try.prog o46 noG N (body Try.f47) (ends Try.prog Try.f47 K)) N ⟨[(V.ints .u64 10 a0), (V.ints .u8 32 e), (V.ptr 0 0), (V.ptr 1 0), (V.ptr 2 0), (V.ptr 3 0), (V.int .i64 255), (V.ints .u64 10 (rSmall 1)), V.un, V.un, V.un, V.un, V.un, V.un, V.un, V.un, V.un, V.un, V.un, V.un, V.un, V.un, V.un, V.un, V.un, V.un, V.un, V.un], [(V.ints .u64 10 a0), (V.ints .u8 32 e), (V.ints .u64 10 (fun _ => 0)), (V.ints .u64 10 (rSmall 1))]⟩ := by kernel_rfl
theorem rPow_s (a0 : (Nat → Int)) (e : (Nat → Int)) (a : Nat → Int) (i : Int) (t8 t9 t10 t11 t12 t13 t14 t15 t16 t17 t18 t19 t20 t21 t22 t23 t24 t25 t26 : V) (Q : Exit → St → Prop) (n : Nat) : lp (awp Try.prog o46 noG 300 (loopOf (body Try.f47))) Q (n + 1) ⟨[(V.ints .u64 10 a0), (V.ints .u8 32 e), (V.ptr 0 0), (V.ptr 1 0), (V.ptr 2 0), (V.ptr 3 0), (V.int .i64 i), (V.ints .u64 10 (rSmall 1)), t8, t9, t10, t11, t12, t13, t14, t15, t16, t17, t18, t19, t20, t21, t22, t23, t24, t25, t26, V.un], [(V.ints .u64 10 a0), (V.ints .u8 32 e), (V.ints .u64 10 (fun _ => 0)), (V.ints .u64 10 a)]⟩ = (mB (decide (i ≥ 0)) (gB (decide (0 ≤ (quoI .i64 i 8) ∧ (quoI .i64 i 8) < 32)) (gB (Nat.blt (0 + (Int.toNat (quoI .i64 i 8) * 1)) 32) (gB (decide (0 ≤ (remI i 8))) (mB ((andI .u8 (shrI .u8 (e (0 + (Int.toNat (quoI .i64 i 8) * 1))) (remI i 8)) 1) == 1) (lp (awp Try.prog o46 noG 300 (loopOf (body Try.f47))) Q n ⟨[(V.ints .u64 10 a0), (V.ints .u8 32 e), (V.ptr 0 0), (V.ptr 1 0), (V.ptr 2 0), (V.ptr 3 0), (V.int .i64 (subI .i64 i 1)), (V.ints .u64 10 (rSmall 1)), (V.int .i64 i), (V.bool (decide (i ≥ 0))), (V.int .i64 i), (V.int .i64 (subI .i64 i 1)), (V.ints .u64 10 a), (V.ints .u64 10 a), (V.ints .u64 10 (rMul a a)), (V.int .i64 i), (V.int .i64 (quoI .i64 i 8)), (V.ptr 1 (0 + (Int.toNat (quoI .i64 i 8) * 1))), (V.int .u8 (e (0 + (Int.toNat (quoI .i64 i 8) * 1)))), (V.int .i64 i), (V.int .i64 (remI i 8)), (V.int .u8 (shrI .u8 (e (0 + (Int.toNat (quoI .i64 i 8) * 1))) (remI i 8))), (V.int .u8 (andI .u8 (shrI .u8 (e (0 + (Int.toNat (quoI .i64 i 8) * 1))) (remI i 8)) 1)), (V.bool ((andI .u8 (shrI .u8 (e (0 + (Int.toNat (quoI .i64 i 8) * 1))) (remI i 8)) 1) == 1)), (V.ints .u64 10 (rMul a a)), (V.ints .u64 10 a0), (V.ints .u64 10 (rMul (rMul a a) a0)), V.un], [(V.ints .u64 10 a0), (V.ints .u8 32 e), (V.ints .u64 10 (fun _ => 0)), (V.ints .u64 10 (rMul (rMul a a) a0))]⟩) (lp (awp Try.prog o46 noG 300 (loopOf (body Try.f47))) Q n ⟨[(V.ints .u64 10 a0), (V.ints .u8 32 e), (V.ptr 0 0), (V.ptr 1 0), (V.ptr 2 0), (V.ptr 3 0), (V.int .i64 (subI .i64 i 1)), (V.ints .u64 10 (rSmall 1)), (V.int .i64 i), (V.bool (decide (i ≥ 0))), (V.int .i64 i), (V.int .i64 (subI .i64 i 1)), (V.ints .u64 10 a), (V.ints .u64 10 a), (V.ints .u64 10 (rMul a a)), (V.int .i64 i), (V.int .i64 (quoI .i64 i 8)), (V.ptr 1 (0 + (Int.toNat (quoI .i64 i 8) * 1))), (V.int .u8 (e (0 + (Int.toNat (quoI .i64 i 8) * 1)))), (V.int .i64 i), (V.int .i64 (remI i 8)), (V.int .u8 (shrI .u8 (e (0 + (Int.toNat (quoI .i64 i 8) * 1))) (remI i 8))), (V.int .u8 (andI .u8 (shrI .u8 (e (0 + (Int.toNat (quoI .i64 i 8) * 1))) (remI i 8)) 1)), (V.bool ((andI .u8 (shrI .u8 (e (0 + (Int.toNat (quoI .i64 i 8) * 1))) (remI i 8)) 1) == 1)), t24, t25, t26, V.un], [(V.ints .u64 10 a0), (V.ints .u8 32 e), (V.ints .u64 10 (fun _ => 0)), (V.ints .u64 10 (rMul a a))]⟩))))) (Q (.exit 0) ⟨[(V.ints .u64 10 a0), (V.ints .u8 32 e), (V.ptr 0 0), (V.ptr 1 0), (V.ptr 2 0), (V.ptr 3 0), (V.int .i64 i), (V.ints .u64 10 (rSmall 1)), (V.int .i64 i), (V.bool (decide (i ≥ 0))), t10, t11, t12, t13, t14, t15, t16, t17, t18, t19, t20, t21, t22, t23, t24, t25, t26, V.un], [(V.ints .u64 10 a0), (V.ints .u8 32 e), (V.ints .u64 10 (fun _ => 0)), (V.ints .u64 10 a)]⟩)) := by kernel_rfl
theorem rPow_x (a0 : (Nat → Int)) (e : (Nat → Int)) (a : Nat → Int) (i : Int) (t8 t9 t10 t11 t12 t13 t14 t15 t16 t17 t18 t19 t20 t21 t22 t23 t24 t25 t26 : V) (R : V) : spineQ Try.prog o46 noG 300 (body Try.f47) (ends Try.prog Try.f47 fun v _ => okV R v) (.exit 0) ⟨[(V.ints .u64 10 a0), (V.ints .u8 32 e), (V.ptr 0 0), (V.ptr 1 0), (V.ptr 2 0), (V.ptr 3 0), (V.int .i64 i), (V.ints .u64 10 (rSmall 1)), t8, t9, t10, t11, t12, t13, t14, t15, t16, t17, t18, t19, t20, t21, t22, t23, t24, t25, t26, V.un], [(V.ints .u64 10 a0), (V.ints .u8 32 e), (V.ints .u64 10 (fun _ => 0)), (V.ints .u64 10 a)]⟩ = (okV R (V.ints .u64 10 a)) := by kernel_rfl

/-- The content behind one round more. -/
def rPow_st (a0 : (Nat → Int)) (e : (Nat → Int)) (i : Int) (a : Nat → Int) : Nat → Int := (cond ((andI .u8 (shrI .u8 (e (0 + (Int.toNat (quoI .i64 i 8) * 1))) (remI i 8)) 1) == 1) (rMul (rMul a a) a0) (rMul a a))
def rPow_it (a0 : (Nat → Int)) (e : (Nat → Int)) : Nat → (Nat → Int)
  | 0 => (rSmall 1)
  | k + 1 => rPow_st a0 e ((256 - 1 - k : Nat) : Int) (rPow_it a0 e k)
theorem rPow_l (a0 : (Nat → Int)) (e : (Nat → Int)) (Q : Exit → St → Prop) (hQ : ∀ (t8 t9 t10 t11 t12 t13 t14 t15 t16 t17 t18 t19 t20 t21 t22 t23 t24 t25 t26 : V), Q (.exit 0) ⟨[(V.ints .u64 10 a0), (V.ints .u8 32 e), (V.ptr 0 0), (V.ptr 1 0), (V.ptr 2 0), (V.ptr 3 0), (V.int .i64 (((256 : Nat) : Int) - 1 - ((256 : Nat) : Int))), (V.ints .u64 10 (rSmall 1)), t8, t9, t10, t11, t12, t13, t14, t15, t16, t17, t18, t19, t20, t21, t22, t23, t24, t25, t26, V.un], [(V.ints .u64 10 a0), (V.ints .u8 32 e), (V.ints .u64 10 (fun _ => 0)), (V.ints .u64 10 (rPow_it a0 e 256))]⟩) : ∀ (d k n : Nat), k + d = 256 → d + 1 ≤ n → ∀ (t8 t9 t10 t11 t12 t13 t14 t15 t16 t17 t18 t19 t20 t21 t22 t23 t24 t25 t26 : V), lp (awp Try.prog o46 noG 300 (loopOf (body Try.f47))) Q n ⟨[(V.ints .u64 10 a0), (V.ints .u8 32 e), (V.ptr 0 0), (V.ptr 1 0), (V.ptr 2 0), (V.ptr 3 0), (V.int .i64 (((256 : Nat) : Int) - 1 - (k : Int))), (V.ints .u64 10 (rSmall 1)), t8, t9, t10, t11, t12, t13, t14, t15, t16, t17, t18, t19, t20, t21, t22, t23, t24, t25, t26, V.un], [(V.ints .u64 10 a0), (V.ints .u8 32 e), (V.ints .u64 10 (fun _ => 0)), (V.ints .u64 10 (rPow_it a0 e k))]⟩
  | 0, k, n, hk, hn, t8, t9, t10, t11, t12, t13, t14, t15, t16, t17, t18, t19, t20, t21, t22, t23, t24, t25, t26 => by
    obtain ⟨n, rfl⟩ : ∃ m, n = m + 1 := ⟨n - 1, by omega⟩
    obtain rfl : k = 256 := by omega
    rw [rPow_s]
    refine mBt (fun h => absurd (of_decide_eq_true h) (by simp)) (fun _ => ?_)
    exact hQ _ _ _ _ _ _ _ _ _ _ _ _ _ _ _ _ _ _ _
  | d + 1, k, n, hk, hn, t8, t9, t10, t11, t12, t13, t14, t15, t16, t17, t18, t19, t20, t21, t22, t23, t24, t25, t26 => by
    obtain ⟨n, rfl⟩ : ∃ m, n = m + 1 := ⟨n - 1, by omega⟩
    have hi : (0 : Int) ≤ (((256 : Nat) : Int) - 1 - (k : Int)) ∧ (((256 : Nat) : Int) - 1 - (k : Int)) < 256 := by omega
    have hix : (((256 : Nat) : Int) - 1 - (k : Int)) = ((256 - 1 - k : Nat) : Int) := by omega
    rw [hix] at hi ⊢
    have g0 : (decide (0 ≤ (quoI .i64 ((256 - 1 - k : Nat) : Int) 8) ∧ (quoI .i64 ((256 - 1 - k : Nat) : Int) 8) < 32)) = true := by first | (rw [show quoI .i64 ((256 - 1 - k : Nat) : Int) 8 = (((256 - 1 - k) / 8 : Nat) : Int) from quo_nat (256 - 1 - k) 8 (by omega)]; exact bltT.2 (by simp; omega)) | (rw [show quoI .i64 ((256 - 1 - k : Nat) : Int) 8 = (((256 - 1 - k) / 8 : Nat) : Int) from quo_nat (256 - 1 - k) 8 (by omega)]; simp; omega) | (rw [show remI ((256 - 1 - k : Nat) : Int) 8 = (((256 - 1 - k) % 8 : Nat) : Int) from rem_nat (256 - 1 - k) 8]; simp; omega)
    have g1 : (Nat.blt (0 + (Int.toNat (quoI .i64 ((256 - 1 - k : Nat) : Int) 8) * 1)) 32) = true := by first | (rw [show quoI .i64 ((256 - 1 - k : Nat) : Int) 8 = (((256 - 1 - k) / 8 : Nat) : Int) from quo_nat (256 - 1 - k) 8 (by omega)]; exact bltT.2 (by simp; omega)) | (rw [show quoI .i64 ((256 - 1 - k : Nat) : Int) 8 = (((256 - 1 - k) / 8 : Nat) : Int) from quo_nat (256 - 1 - k) 8 (by omega)]; simp; omega) | (rw [show remI ((256 - 1 - k : Nat) : Int) 8 = (((256 - 1 - k) % 8 : Nat) : Int) from rem_nat (256 - 1 - k) 8]; simp; omega)
    have g2 : (decide (0 ≤ (remI ((256 - 1 - k : Nat) : Int) 8))) = true := by first | (rw [show quoI .i64 ((256 - 1 - k : Nat) : Int) 8 = (((256 - 1 - k) / 8 : Nat) : Int) from quo_nat (256 - 1 - k) 8 (by omega)]; exact bltT.2 (by simp; omega)) | (rw [show quoI .i64 ((256 - 1 - k : Nat) : Int) 8 = (((256 - 1 - k) / 8 : Nat) : Int) from quo_nat (256 - 1 - k) 8 (by omega)]; simp; omega) | (rw [show remI ((256 - 1 - k : Nat) : Int) 8 = (((256 - 1 - k) % 8 : Nat) : Int) from rem_nat (256 - 1 - k) 8]; simp; omega)
    have hnx : (subI .i64 ((256 - 1 - k : Nat) : Int) 1) = (((256 : Nat) : Int) - 1 - ((k + 1 : Nat) : Int)) := by rw [sub1_nat _ (by omega)]; omega
    rw [rPow_s]
    refine mBt (fun _ => ?_) (fun h => absurd hi.1 (of_decide_eq_false h))
    refine gm g0 ?_
    refine gm g1 ?_
    refine gm g2 ?_
    refine mBt (fun c0 => ?_) (fun c0 => ?_)
    · rw [hnx]
      have h := rPow_l a0 e Q hQ d (k + 1) n (by omega) (by omega)
      simp only [rPow_it, rPow_st, c0, cond_true] at h
      exact h _ _ _ _ _ _ _ _ _ _ _ _ _ _ _ _ _ _ _
    · rw [hnx]
      have h := rPow_l a0 e Q hQ d (k + 1) n (by omega) (by omega)
      simp only [rPow_it, rPow_st, c0, cond_false] at h
      exact h _ _ _ _ _ _ _ _ _ _ _ _ _ _ _ _ _ _ _

def rPow (a0 e : Nat → Int) : Nat → Int := rPow_it a0 e 256
theorem rPow_a (a0 : (Nat → Int)) (e : (Nat → Int)) : awp Try.prog o46 noG 300 (body Try.f47) (ends Try.prog Try.f47 fun v _ => okV (V.ints .u64 10 (rPow a0 e)) v) ⟨[(V.ints .u64 10 a0), (V.ints .u8 32 e)] ++ List.replicate 26 V.un, []⟩ := by
  rw [rPow_h]
  exact rPow_l a0 e _ (fun _ _ _ _ _ _ _ _ _ _ _ _ _ _ _ _ _ _ _ => by rw [rPow_x]; exact okV_refl rfl) 256 0 300 (by omega) (by omega) _ _ _ _ _ _ _ _ _ _ _ _ _ _ _ _ _ _ _

def g47 : List V → Option (Bool × V) := fun | [.ints .u64 10 a0, .ints .u8 32 e] => some (true, (V.ints .u64 10 (rPow a0 e))) | _ => none
theorem rPow_p (a0 : (Nat → Int)) (e : (Nat → Int)) : (∀ μ μ', V.den μ' (V.ints .u64 10 (rPow a0 e)) = V.den μ (V.ints .u64 10 (rPow a0 e))) ∧ ∀ μ w, PureAt Try.prog 47 (([(V.ints .u64 10 a0), (V.ints .u8 32 e)] : List V).map (V.den μ)).toArray (V.den μ (V.ints .u64 10 (rPow a0 e))) w :=
  pure_ok (F := o46) (N := 300) (fn := Try.f47) (args := [(V.ints .u64 10 a0), (V.ints .u8 32 e)]) (r := (V.ints .u64 10 (rPow a0 e))) (n := 26) hM o46_ok (noG_ok _) Try.func47 (by kernel_rfl) (by kernel_rfl) (by kernel_rfl) (by kernel_rfl) (rPow_a a0 e) (by kernel_rfl)
theorem g47_ok (vs : List V) (v : V) (h : g47 vs = some (true, v)) : (∀ μ μ', v.den μ' = v.den μ) ∧ ∀ μ w, PureAt Try.prog 47 (vs.map (V.den μ)).toArray (v.den μ) w := by
  unfold g47 at h
  split at h
  · simp only [Option.some.injEq, Prod.mk.injEq, true_and] at h
    subst h
    exact rPow_p _ _
  · simp at h
def o47 : Orc := ext 47 g47 o46
theorem o47_ok : OrcOK Try.prog o47 := ext_ok o46_ok g47_ok

/- field.power -/
def power255 (low : Int) (high : Int) : (Nat → Int) := (L [low, 255, 255, 255, 255, 255, 255, 255, 255, 255, 255, 255, 255, 255, 255, 255, 255, 255, 255, 255, 255, 255, 255, 255, 255, 255, 255, 255, 255, 255, 255, high])
theorem power255_t (low : Int) (high : Int) : awp Try.prog o47 noG 300 (body Try.f90) (ends Try.prog Try.f90 fun v _ => okV (V.ints .u8 32 (power255 low high)) v) ⟨[(V.int .u8 low), (V.int .u8 high)] ++ List.replicate 16 V.un, []⟩ = ((V.ints .u8 32 (power255 low high)).den z0 = (V.ints .u8 32 (power255 low high)).den z0) := by kernel_rfl
theorem power255_a (low : Int) (high : Int) : awp Try.prog o47 noG 300 (body Try.f90) (ends Try.prog Try.f90 fun v _ => okV (V.ints .u8 32 (power255 low high)) v) ⟨[(V.int .u8 low), (V.int .u8 high)] ++ List.replicate 16 V.un, []⟩ := by rw [power255_t]
def g90 : List V → Option (Bool × V) := fun | [.int .u8 low, .int .u8 high] => some (true, (V.ints .u8 32 (power255 low high))) | _ => none
theorem power255_p (low : Int) (high : Int) : (∀ μ μ', V.den μ' (V.ints .u8 32 (power255 low high)) = V.den μ (V.ints .u8 32 (power255 low high))) ∧ ∀ μ w, PureAt Try.prog 90 (([(V.int .u8 low), (V.int .u8 high)] : List V).map (V.den μ)).toArray (V.den μ (V.ints .u8 32 (power255 low high))) w :=
  pure_ok (F := o47) (N := 300) (fn := Try.f90) (args := [(V.int .u8 low), (V.int .u8 high)]) (r := (V.ints .u8 32 (power255 low high))) (n := 16) hM o47_ok (noG_ok _) Try.func90 (by kernel_rfl) (by kernel_rfl) (by kernel_rfl) (by kernel_rfl) (power255_a low high) (by kernel_rfl)
theorem g90_ok (vs : List V) (v : V) (h : g90 vs = some (true, v)) : (∀ μ μ', v.den μ' = v.den μ) ∧ ∀ μ w, PureAt Try.prog 90 (vs.map (V.den μ)).toArray (v.den μ) w := by
  unfold g90 at h
  split at h
  · simp only [Option.some.injEq, Prod.mk.injEq, true_and] at h
    subst h
    exact power255_p _ _
  · simp at h
def o90 : Orc := ext 90 g90 o47
theorem o90_ok : OrcOK Try.prog o90 := ext_ok o47_ok g90_ok

/- fareboxref05.Power -/
def rPower (low : Int) (high : Int) : (Nat → Int) := (L [low, 255, 255, 255, 255, 255, 255, 255, 255, 255, 255, 255, 255, 255, 255, 255, 255, 255, 255, 255, 255, 255, 255, 255, 255, 255, 255, 255, 255, 255, 255, high])
theorem rPower_t (low : Int) (high : Int) : awp Try.prog o90 noG 300 (body Try.f91) (ends Try.prog Try.f91 fun v _ => okV (V.ints .u8 32 (rPower low high)) v) ⟨[(V.int .u8 low), (V.int .u8 high)] ++ List.replicate 16 V.un, []⟩ = ((V.ints .u8 32 (rPower low high)).den z0 = (V.ints .u8 32 (rPower low high)).den z0) := by kernel_rfl
theorem rPower_a (low : Int) (high : Int) : awp Try.prog o90 noG 300 (body Try.f91) (ends Try.prog Try.f91 fun v _ => okV (V.ints .u8 32 (rPower low high)) v) ⟨[(V.int .u8 low), (V.int .u8 high)] ++ List.replicate 16 V.un, []⟩ := by rw [rPower_t]
def g91 : List V → Option (Bool × V) := fun | [.int .u8 low, .int .u8 high] => some (true, (V.ints .u8 32 (rPower low high))) | _ => none
theorem rPower_p (low : Int) (high : Int) : (∀ μ μ', V.den μ' (V.ints .u8 32 (rPower low high)) = V.den μ (V.ints .u8 32 (rPower low high))) ∧ ∀ μ w, PureAt Try.prog 91 (([(V.int .u8 low), (V.int .u8 high)] : List V).map (V.den μ)).toArray (V.den μ (V.ints .u8 32 (rPower low high))) w :=
  pure_ok (F := o90) (N := 300) (fn := Try.f91) (args := [(V.int .u8 low), (V.int .u8 high)]) (r := (V.ints .u8 32 (rPower low high))) (n := 16) hM o90_ok (noG_ok _) Try.func91 (by kernel_rfl) (by kernel_rfl) (by kernel_rfl) (by kernel_rfl) (rPower_a low high) (by kernel_rfl)
theorem g91_ok (vs : List V) (v : V) (h : g91 vs = some (true, v)) : (∀ μ μ', v.den μ' = v.den μ) ∧ ∀ μ w, PureAt Try.prog 91 (vs.map (V.den μ)).toArray (v.den μ) w := by
  unfold g91 at h
  split at h
  · simp only [Option.some.injEq, Prod.mk.injEq, true_and] at h
    subst h
    exact rPower_p _ _
  · simp at h
def o91 : Orc := ext 91 g91 o90
theorem o91_ok : OrcOK Try.prog o91 := ext_ok o90_ok g91_ok

/- field.Invert -/
def invertF (x : (Nat → Int)) : (Nat → Int) := (powF x (power255 235 127))
theorem invertF_t (x : (Nat → Int)) : awp Try.prog o91 noG 300 (body Try.f48) (ends Try.prog Try.f48 fun v _ => okV (V.ints .u64 5 (invertF x)) v) ⟨[(V.ints .u64 5 x)] ++ List.replicate 5 V.un, []⟩ = ((V.ints .u64 5 (invertF x)).den z0 = (V.ints .u64 5 (invertF x)).den z0) := by kernel_rfl
theorem invertF_a (x : (Nat → Int)) : awp Try.prog o91 noG 300 (body Try.f48) (ends Try.prog Try.f48 fun v _ => okV (V.ints .u64 5 (invertF x)) v) ⟨[(V.ints .u64 5 x)] ++ List.replicate 5 V.un, []⟩ := by rw [invertF_t]
def g48 : List V → Option (Bool × V) := fun | [.ints .u64 5 x] => some (true, (V.ints .u64 5 (invertF x))) | _ => none
theorem invertF_p (x : (Nat → Int)) : (∀ μ μ', V.den μ' (V.ints .u64 5 (invertF x)) = V.den μ (V.ints .u64 5 (invertF x))) ∧ ∀ μ w, PureAt Try.prog 48 (([(V.ints .u64 5 x)] : List V).map (V.den μ)).toArray (V.den μ (V.ints .u64 5 (invertF x))) w :=
  pure_ok (F := o91) (N := 300) (fn := Try.f48) (args := [(V.ints .u64 5 x)]) (r := (V.ints .u64 5 (invertF x))) (n := 5) hM o91_ok (noG_ok _) Try.func48 (by kernel_rfl) (by kernel_rfl) (by kernel_rfl) (by kernel_rfl) (invertF_a x) (by kernel_rfl)
theorem g48_ok (vs : List V) (v : V) (h : g48 vs = some (true, v)) : (∀ μ μ', v.den μ' = v.den μ) ∧ ∀ μ w, PureAt Try.prog 48 (vs.map (V.den μ)).toArray (v.den μ) w := by
  unfold g48 at h
  split at h
  · simp only [Option.some.injEq, Prod.mk.injEq, true_and] at h
    subst h
    exact invertF_p _
  · simp at h
def o48 : Orc := ext 48 g48 o91
theorem o48_ok : OrcOK Try.prog o48 := ext_ok o91_ok g48_ok

/- fareboxref05.Invert -/
def rInvert (a : (Nat → Int)) : (Nat → Int) := (rPow a (rPower 235 127))
set_option maxRecDepth 100000 in
theorem rInvert_t (a : (Nat → Int)) : awp Try.prog o48 noG 300 (body Try.f49) (ends Try.prog Try.f49 fun v _ => okV (V.ints .u64 10 (rInvert a)) v) ⟨[(V.ints .u64 10 a)] ++ List.replicate 5 V.un, []⟩ = ((V.ints .u64 10 (rInvert a)).den z0 = (V.ints .u64 10 (rInvert a)).den z0) := by kernel_rfl
theorem rInvert_a (a : (Nat → Int)) : awp Try.prog o48 noG 300 (body Try.f49) (ends Try.prog Try.f49 fun v _ => okV (V.ints .u64 10 (rInvert a)) v) ⟨[(V.ints .u64 10 a)] ++ List.replicate 5 V.un, []⟩ := by rw [rInvert_t]
def g49 : List V → Option (Bool × V) := fun | [.ints .u64 10 a] => some (true, (V.ints .u64 10 (rInvert a))) | _ => none
theorem rInvert_p (a : (Nat → Int)) : (∀ μ μ', V.den μ' (V.ints .u64 10 (rInvert a)) = V.den μ (V.ints .u64 10 (rInvert a))) ∧ ∀ μ w, PureAt Try.prog 49 (([(V.ints .u64 10 a)] : List V).map (V.den μ)).toArray (V.den μ (V.ints .u64 10 (rInvert a))) w :=
  pure_ok (F := o48) (N := 300) (fn := Try.f49) (args := [(V.ints .u64 10 a)]) (r := (V.ints .u64 10 (rInvert a))) (n := 5) hM o48_ok (noG_ok _) Try.func49 (by kernel_rfl) (by kernel_rfl) (by kernel_rfl) (by kernel_rfl) (rInvert_a a) (by kernel_rfl)
theorem g49_ok (vs : List V) (v : V) (h : g49 vs = some (true, v)) : (∀ μ μ', v.den μ' = v.den μ) ∧ ∀ μ w, PureAt Try.prog 49 (vs.map (V.den μ)).toArray (v.den μ) w := by
  unfold g49 at h
  split at h
  · simp only [Option.some.injEq, Prod.mk.injEq, true_and] at h
    subst h
    exact rInvert_p _
  · simp at h
def o49 : Orc := ext 49 g49 o48
theorem o49_ok : OrcOK Try.prog o49 := ext_ok o48_ok g49_ok

theorem isEO_ex : ∃ f : (Nat → Int) → (Nat → Int) → Bool, f = isE := ⟨_, rfl⟩
/-- isE, by a name that is not unfolded. -/
noncomputable def isEO : (Nat → Int) → (Nat → Int) → Bool := Classical.choose isEO_ex
theorem isEO_eq : isEO = isE := Classical.choose_spec isEO_ex
noncomputable def g27O : List V → Option (Bool × V) := fun | [.ints .u64 5 x, .ints .u64 10 a] => some (true, (V.bool (isEO x a))) | _ => none
theorem g27O_ok (vs : List V) (v : V) (h : g27O vs = some (true, v)) : (∀ μ μ', v.den μ' = v.den μ) ∧ ∀ μ w, PureAt Try.prog 27 (vs.map (V.den μ)).toArray (v.den μ) w := by
  unfold g27O at h
  split at h
  · simp only [Option.some.injEq, Prod.mk.injEq, true_and] at h
    subst h
    rw [isEO_eq]
    exact isE_p _ _
  · simp at h
noncomputable def o27O : Orc := ext 27 g27O o49
theorem o27O_ok : OrcOK Try.prog o27O := ext_ok o49_ok g27O_ok

theorem powFO_ex : ∃ f : (Nat → Int) → (Nat → Int) → (Nat → Int), f = powF := ⟨_, rfl⟩
/-- powF, by a name that is not unfolded. -/
noncomputable def powFO : (Nat → Int) → (Nat → Int) → (Nat → Int) := Classical.choose powFO_ex
theorem powFO_eq : powFO = powF := Classical.choose_spec powFO_ex
noncomputable def g46O : List V → Option (Bool × V) := fun | [.ints .u64 5 x, .ints .u8 32 e] => some (true, (V.ints .u64 5 (powFO x e))) | _ => none
theorem g46O_ok (vs : List V) (v : V) (h : g46O vs = some (true, v)) : (∀ μ μ', v.den μ' = v.den μ) ∧ ∀ μ w, PureAt Try.prog 46 (vs.map (V.den μ)).toArray (v.den μ) w := by
  unfold g46O at h
  split at h
  · simp only [Option.some.injEq, Prod.mk.injEq, true_and] at h
    subst h
    rw [powFO_eq]
    exact powF_p _ _
  · simp at h
noncomputable def o46O : Orc := ext 46 g46O o27O
theorem o46O_ok : OrcOK Try.prog o46O := ext_ok o27O_ok g46O_ok

theorem rPowO_ex : ∃ f : (Nat → Int) → (Nat → Int) → (Nat → Int), f = rPow := ⟨_, rfl⟩
/-- rPow, by a name that is not unfolded. -/
noncomputable def rPowO : (Nat → Int) → (Nat → Int) → (Nat → Int) := Classical.choose rPowO_ex
theorem rPowO_eq : rPowO = rPow := Classical.choose_spec rPowO_ex
noncomputable def g47O : List V → Option (Bool × V) := fun | [.ints .u64 10 a0, .ints .u8 32 e] => some (true, (V.ints .u64 10 (rPowO a0 e))) | _ => none
theorem g47O_ok (vs : List V) (v : V) (h : g47O vs = some (true, v)) : (∀ μ μ', v.den μ' = v.den μ) ∧ ∀ μ w, PureAt Try.prog 47 (vs.map (V.den μ)).toArray (v.den μ) w := by
  unfold g47O at h
  split at h
  · simp only [Option.some.injEq, Prod.mk.injEq, true_and] at h
    subst h
    rw [rPowO_eq]
    exact rPow_p _ _
  · simp at h
noncomputable def o47O : Orc := ext 47 g47O o46O
theorem o47O_ok : OrcOK Try.prog o47O := ext_ok o46O_ok g47O_ok

theorem invertFO_ex : ∃ f : (Nat → Int) → (Nat → Int), f = invertF := ⟨_, rfl⟩
/-- invertF, by a name that is not unfolded. -/
noncomputable def invertFO : (Nat → Int) → (Nat → Int) := Classical.choose invertFO_ex
theorem invertFO_eq : invertFO = invertF := Classical.choose_spec invertFO_ex
noncomputable def g48O : List V → Option (Bool × V) := fun | [.ints .u64 5 x] => some (true, (V.ints .u64 5 (invertFO x))) | _ => none
theorem g48O_ok (vs : List V) (v : V) (h : g48O vs = some (true, v)) : (∀ μ μ', v.den μ' = v.den μ) ∧ ∀ μ w, PureAt Try.prog 48 (vs.map (V.den μ)).toArray (v.den μ) w := by
  unfold g48O at h
  split at h
  · simp only [Option.some.injEq, Prod.mk.injEq, true_and] at h
    subst h
    rw [invertFO_eq]
    exact invertF_p _
  · simp at h
noncomputable def o48O : Orc := ext 48 g48O o47O
theorem o48O_ok : OrcOK Try.prog o48O := ext_ok o47O_ok g48O_ok

theorem rInvertO_ex : ∃ f : (Nat → Int) → (Nat → Int), f = rInvert := ⟨_, rfl⟩
/-- rInvert, by a name that is not unfolded. -/
noncomputable def rInvertO : (Nat → Int) → (Nat → Int) := Classical.choose rInvertO_ex
theorem rInvertO_eq : rInvertO = rInvert := Classical.choose_spec rInvertO_ex
noncomputable def g49O : List V → Option (Bool × V) := fun | [.ints .u64 10 a] => some (true, (V.ints .u64 10 (rInvertO a))) | _ => none
theorem g49O_ok (vs : List V) (v : V) (h : g49O vs = some (true, v)) : (∀ μ μ', v.den μ' = v.den μ) ∧ ∀ μ w, PureAt Try.prog 49 (vs.map (V.den μ)).toArray (v.den μ) w := by
  unfold g49O at h
  split at h
  · simp only [Option.some.injEq, Prod.mk.injEq, true_and] at h
    subst h
    rw [rInvertO_eq]
    exact rInvert_p _
  · simp at h
noncomputable def o49O : Orc := ext 49 g49O o48O
theorem o49O_ok : OrcOK Try.prog o49O := ext_ok o48O_ok g49O_ok

theorem rOfO_ex : ∃ f : (Nat → Int) → (Nat → Int), f = rOf := ⟨_, rfl⟩
/-- rOf, by a name that is not unfolded. -/
noncomputable def rOfO : (Nat → Int) → (Nat → Int) := Classical.choose rOfO_ex
theorem rOfO_eq : rOfO = rOf := Classical.choose_spec rOfO_ex
noncomputable def g21O : List V → Option (Bool × V) := fun | [.ints .u64 5 x] => some (true, (V.ints .u64 10 (rOfO x))) | _ => none
theorem g21O_ok (vs : List V) (v : V) (h : g21O vs = some (true, v)) : (∀ μ μ', v.den μ' = v.den μ) ∧ ∀ μ w, PureAt Try.prog 21 (vs.map (V.den μ)).toArray (v.den μ) w := by
  unfold g21O at h
  split at h
  · simp only [Option.some.injEq, Prod.mk.injEq, true_and] at h
    subst h
    rw [rOfO_eq]
    exact rOf_p _
  · simp at h
noncomputable def o21O : Orc := ext 21 g21O o49O
theorem o21O_ok : OrcOK Try.prog o21O := ext_ok o49O_ok g21O_ok
end Go.Proofs.Ytbnclikjbnfodaa
