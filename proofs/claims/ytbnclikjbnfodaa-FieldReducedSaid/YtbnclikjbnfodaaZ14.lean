/-
  A part of the groundwork of this seat's claims: an evaluator over the program, walks, and plain mathematics. Conditions: none.
-/
import Derived.Test.YtbnclikjbnfodaaZ13
namespace Go.Proofs.Ytbnclikjbnfodaa
open Go.Ev
theorem powF_h (x : (Nat → Int)) (e : (Nat → Int)) (N : Nat) (K : V → List V → Prop) : awp Try.prog o45 noG N (body Try.f46) (ends Try.prog Try.f46 K) ⟨[(V.ints .u64 5 x), (V.ints .u8 32 e)] ++ List.replicate 25 V.un, []⟩ = lp (awp Try.prog o45 noG N (loopOf (body Try.f46))) (spineQ Try.prog o45 noG N (body Try.f46) (ends Try.prog Try.f46 K)) N ⟨[(V.ints .u64 5 x), (V.ints .u8 32 e), (V.ptr 0 0), (V.ptr 1 0), (V.ptr 2 0), (V.ptr 3 0), (V.int .i64 255), (V.ints .u64 5 (smallF 1)), V.un, V.un, V.un, V.un, V.un, V.un, V.un, V.un, V.un, V.un, V.un, V.un, V.un, V.un, V.un, V.un, V.un, V.un, V.un], [(V.ints .u64 5 x), (V.ints .u8 32 e), (V.ints .u64 5 (fun _ => 0)), (V.ints .u64 5 (smallF 1))]⟩ := by kernel_rfl
theorem powF_s (x : (Nat → Int)) (e : (Nat → Int)) (a : Nat → Int) (i : Int) (t8 t9 t10 t11 t12 t13 t14 t15 t16 t17 t18 t19 t20 t21 t22 t23 t24 t25 : V) (Q : Exit → St → Prop) (n : Nat) : lp (awp Try.prog o45 noG 300 (loopOf (body Try.f46))) Q (n + 1) ⟨[(V.ints .u64 5 x), (V.ints .u8 32 e), (V.ptr 0 0), (V.ptr 1 0), (V.ptr 2 0), (V.ptr 3 0), (V.int .i64 i), (V.ints .u64 5 (smallF 1)), t8, t9, t10, t11, t12, t13, t14, t15, t16, t17, t18, t19, t20, t21, t22, t23, t24, t25, V.un], [(V.ints .u64 5 x), (V.ints .u8 32 e), (V.ints .u64 5 (fun _ => 0)), (V.ints .u64 5 a)]⟩ = (mB (decide (i ≥ 0)) (gB (decide (0 ≤ (quoI .i64 i 8) ∧ (quoI .i64 i 8) < 32)) (gB (Nat.blt (0 + (Int.toNat (quoI .i64 i 8) * 1)) 32) (gB (decide (0 ≤ (remI i 8))) (mB ((andI .u8 (shrI .u8 (e (0 + (Int.toNat (quoI .i64 i 8) * 1))) (remI i 8)) 1) == 1) (lp (awp Try.prog o45 noG 300 (loopOf (body Try.f46))) Q n ⟨[(V.ints .u64 5 x), (V.ints .u8 32 e), (V.ptr 0 0), (V.ptr 1 0), (V.ptr 2 0), (V.ptr 3 0), (V.int .i64 (subI .i64 i 1)), (V.ints .u64 5 (smallF 1)), (V.int .i64 i), (V.bool (decide (i ≥ 0))), (V.int .i64 i), (V.int .i64 (subI .i64 i 1)), (V.ints .u64 5 a), (V.ints .u64 5 (squareF a)), (V.int .i64 i), (V.int .i64 (quoI .i64 i 8)), (V.ptr 1 (0 + (Int.toNat (quoI .i64 i 8) * 1))), (V.int .u8 (e (0 + (Int.toNat (quoI .i64 i 8) * 1)))), (V.int .i64 i), (V.int .i64 (remI i 8)), (V.int .u8 (shrI .u8 (e (0 + (Int.toNat (quoI .i64 i 8) * 1))) (remI i 8))), (V.int .u8 (andI .u8 (shrI .u8 (e (0 + (Int.toNat (quoI .i64 i 8) * 1))) (remI i 8)) 1)), (V.bool ((andI .u8 (shrI .u8 (e (0 + (Int.toNat (quoI .i64 i 8) * 1))) (remI i 8)) 1) == 1)), (V.ints .u64 5 (squareF a)), (V.ints .u64 5 x), (V.ints .u64 5 (mulF (squareF a) x)), V.un], [(V.ints .u64 5 x), (V.ints .u8 32 e), (V.ints .u64 5 (fun _ => 0)), (V.ints .u64 5 (mulF (squareF a) x))]⟩) (lp (awp Try.prog o45 noG 300 (loopOf (body Try.f46))) Q n ⟨[(V.ints .u64 5 x), (V.ints .u8 32 e), (V.ptr 0 0), (V.ptr 1 0), (V.ptr 2 0), (V.ptr 3 0), (V.int .i64 (subI .i64 i 1)), (V.ints .u64 5 (smallF 1)), (V.int .i64 i), (V.bool (decide (i ≥ 0))), (V.int .i64 i), (V.int .i64 (subI .i64 i 1)), (V.ints .u64 5 a), (V.ints .u64 5 (squareF a)), (V.int .i64 i), (V.int .i64 (quoI .i64 i 8)), (V.ptr 1 (0 + (Int.toNat (quoI .i64 i 8) * 1))), (V.int .u8 (e (0 + (Int.toNat (quoI .i64 i 8) * 1)))), (V.int .i64 i), (V.int .i64 (remI i 8)), (V.int .u8 (shrI .u8 (e (0 + (Int.toNat (quoI .i64 i 8) * 1))) (remI i 8))), (V.int .u8 (andI .u8 (shrI .u8 (e (0 + (Int.toNat (quoI .i64 i 8) * 1))) (remI i 8)) 1)), (V.bool ((andI .u8 (shrI .u8 (e (0 + (Int.toNat (quoI .i64 i 8) * 1))) (remI i 8)) 1) == 1)), t23, t24, t25, V.un], [(V.ints .u64 5 x), (V.ints .u8 32 e), (V.ints .u64 5 (fun _ => 0)), (V.ints .u64 5 (squareF a))]⟩))))) (Q (.exit 0) ⟨[(V.ints .u64 5 x), (V.ints .u8 32 e), (V.ptr 0 0), (V.ptr 1 0), (V.ptr 2 0), (V.ptr 3 0), (V.int .i64 i), (V.ints .u64 5 (smallF 1)), (V.int .i64 i), (V.bool (decide (i ≥ 0))), t10, t11, t12, t13, t14, t15, t16, t17, t18, t19, t20, t21, t22, t23, t24, t25, V.un], [(V.ints .u64 5 x), (V.ints .u8 32 e), (V.ints .u64 5 (fun _ => 0)), (V.ints .u64 5 a)]⟩)) := by kernel_rfl
theorem powF_x (x : (Nat → Int)) (e : (Nat → Int)) (a : Nat → Int) (i : Int) (t8 t9 t10 t11 t12 t13 t14 t15 t16 t17 t18 t19 t20 t21 t22 t23 t24 t25 : V) (R : V) : spineQ Try.prog o45 noG 300 (body Try.f46) (ends Try.prog Try.f46 fun v _ => okV R v) (.exit 0) ⟨[(V.ints .u64 5 x), (V.ints .u8 32 e), (V.ptr 0 0), (V.ptr 1 0), (V.ptr 2 0), (V.ptr 3 0), (V.int .i64 i), (V.ints .u64 5 (smallF 1)), t8, t9, t10, t11, t12, t13, t14, t15, t16, t17, t18, t19, t20, t21, t22, t23, t24, t25, V.un], [(V.ints .u64 5 x), (V.ints .u8 32 e), (V.ints .u64 5 (fun _ => 0)), (V.ints .u64 5 a)]⟩ = (okV R (V.ints .u64 5 a)) := by kernel_rfl

/-- The content behind one round more. -/
def powF_st (x : (Nat → Int)) (e : (Nat → Int)) (i : Int) (a : Nat → Int) : Nat → Int := (cond ((andI .u8 (shrI .u8 (e (0 + (Int.toNat (quoI .i64 i 8) * 1))) (remI i 8)) 1) == 1) (mulF (squareF a) x) (squareF a))
def powF_it (x : (Nat → Int)) (e : (Nat → Int)) : Nat → (Nat → Int)
  | 0 => (smallF 1)
  | k + 1 => powF_st x e ((256 - 1 - k : Nat) : Int) (powF_it x e k)
theorem powF_l (x : (Nat → Int)) (e : (Nat → Int)) (Q : Exit → St → Prop) (hQ : ∀ (t8 t9 t10 t11 t12 t13 t14 t15 t16 t17 t18 t19 t20 t21 t22 t23 t24 t25 : V), Q (.exit 0) ⟨[(V.ints .u64 5 x), (V.ints .u8 32 e), (V.ptr 0 0), (V.ptr 1 0), (V.ptr 2 0), (V.ptr 3 0), (V.int .i64 (((256 : Nat) : Int) - 1 - ((256 : Nat) : Int))), (V.ints .u64 5 (smallF 1)), t8, t9, t10, t11, t12, t13, t14, t15, t16, t17, t18, t19, t20, t21, t22, t23, t24, t25, V.un], [(V.ints .u64 5 x), (V.ints .u8 32 e), (V.ints .u64 5 (fun _ => 0)), (V.ints .u64 5 (powF_it x e 256))]⟩) : ∀ (d k n : Nat), k + d = 256 → d + 1 ≤ n → ∀ (t8 t9 t10 t11 t12 t13 t14 t15 t16 t17 t18 t19 t20 t21 t22 t23 t24 t25 : V), lp (awp Try.prog o45 noG 300 (loopOf (body Try.f46))) Q n ⟨[(V.ints .u64 5 x), (V.ints .u8 32 e), (V.ptr 0 0), (V.ptr 1 0), (V.ptr 2 0), (V.ptr 3 0), (V.int .i64 (((256 : Nat) : Int) - 1 - (k : Int))), (V.ints .u64 5 (smallF 1)), t8, t9, t10, t11, t12, t13, t14, t15, t16, t17, t18, t19, t20, t21, t22, t23, t24, t25, V.un], [(V.ints .u64 5 x), (V.ints .u8 32 e), (V.ints .u64 5 (fun _ => 0)), (V.ints .u64 5 (powF_it x e k))]⟩
  | 0, k, n, hk, hn, t8, t9, t10, t11, t12, t13, t14, t15, t16, t17, t18, t19, t20, t21, t22, t23, t24, t25 => by
    obtain ⟨n, rfl⟩ : ∃ m, n = m + 1 := ⟨n - 1, by omega⟩
    obtain rfl : k = 256 := by omega
    rw [powF_s]
    refine mBt (fun h => absurd (of_decide_eq_true h) (by simp)) (fun _ => ?_)
    exact hQ _ _ _ _ _ _ _ _ _ _ _ _ _ _ _ _ _ _
  | d + 1, k, n, hk, hn, t8, t9, t10, t11, t12, t13, t14, t15, t16, t17, t18, t19, t20, t21, t22, t23, t24, t25 => by
    obtain ⟨n, rfl⟩ : ∃ m, n = m + 1 := ⟨n - 1, by omega⟩
    have hi : (0 : Int) ≤ (((256 : Nat) : Int) - 1 - (k : Int)) ∧ (((256 : Nat) : Int) - 1 - (k : Int)) < 256 := by omega
    have hix : (((256 : Nat) : Int) - 1 - (k : Int)) = ((256 - 1 - k : Nat) : Int) := by omega
    rw [hix] at hi ⊢
    have g0 : (decide (0 ≤ (quoI .i64 ((256 - 1 - k : Nat) : Int) 8) ∧ (quoI .i64 ((256 - 1 - k : Nat) : Int) 8) < 32)) = true := by first | (rw [show quoI .i64 ((256 - 1 - k : Nat) : Int) 8 = (((256 - 1 - k) / 8 : Nat) : Int) from quo_nat (256 - 1 - k) 8 (by omega)]; exact bltT.2 (by simp; omega)) | (rw [show quoI .i64 ((256 - 1 - k : Nat) : Int) 8 = (((256 - 1 - k) / 8 : Nat) : Int) from quo_nat (256 - 1 - k) 8 (by omega)]; simp; omega) | (rw [show remI ((256 - 1 - k : Nat) : Int) 8 = (((256 - 1 - k) % 8 : Nat) : Int) from rem_nat (256 - 1 - k) 8]; simp; omega)
    have g1 : (Nat.blt (0 + (Int.toNat (quoI .i64 ((256 - 1 - k : Nat) : Int) 8) * 1)) 32) = true := by first | (rw [show quoI .i64 ((256 - 1 - k : Nat) : Int) 8 = (((256 - 1 - k) / 8 : Nat) : Int) from quo_nat (256 - 1 - k) 8 (by omega)]; exact bltT.2 (by simp; omega)) | (rw [show quoI .i64 ((256 - 1 - k : Nat) : Int) 8 = (((256 - 1 - k) / 8 : Nat) : Int) from quo_nat (256 - 1 - k) 8 (by omega)]; simp; omega) | (rw [show remI ((256 - 1 - k : Nat) : Int) 8 = (((256 - 1 - k) % 8 : Nat) : Int) from rem_nat (256 - 1 - k) 8]; simp; omega)
    have g2 : (decide (0 ≤ (remI ((256 - 1 - k : Nat) : Int) 8))) = true := by first | (rw [show quoI .i64 ((256 - 1 - k : Nat) : Int) 8 = (((256 - 1 - k) / 8 : Nat) : Int) from quo_nat (256 - 1 - k) 8 (by omega)]; exact bltT.2 (by simp; omega)) | (rw [show quoI .i64 ((256 - 1 - k : Nat) : Int) 8 = (((256 - 1 - k) / 8 : Nat) : Int) from quo_nat (256 - 1 - k) 8 (by omega)]; simp; omega) | (rw [show remI ((256 - 1 - k : Nat) : Int) 8 = (((256 - 1 - k) % 8 : Nat) : Int) from rem_nat (256 - 1 - k) 8]; simp; omega)
    have hnx : (subI .i64 ((256 - 1 - k : Nat) : Int) 1) = (((256 : Nat) : Int) - 1 - ((k + 1 : Nat) : Int)) := by rw [sub1_nat _ (by omega)]; omega
    rw [powF_s]
    refine mBt (fun _ => ?_) (fun h => absurd hi.1 (of_decide_eq_false h))
    refine gm g0 ?_
    refine gm g1 ?_
    refine gm g2 ?_
    refine mBt (fun c0 => ?_) (fun c0 => ?_)
    · rw [hnx]
      have h := powF_l x e Q hQ d (k + 1) n (by omega) (by omega)
      simp only [powF_it, powF_st, c0, cond_true] at h
      exact h _ _ _ _ _ _ _ _ _ _ _ _ _ _ _ _ _ _
    · rw [hnx]
      have h := powF_l x e Q hQ d (k + 1) n (by omega) (by omega)
      simp only [powF_it, powF_st, c0, cond_false] at h
      exact h _ _ _ _ _ _ _ _ _ _ _ _ _ _ _ _ _ _

def powF (x e : Nat → Int) : Nat → Int := powF_it x e 256
theorem powF_a (x : (Nat → Int)) (e : (Nat → Int)) : awp Try.prog o45 noG 300 (body Try.f46) (ends Try.prog Try.f46 fun v _ => okV (V.ints .u64 5 (powF x e)) v) ⟨[(V.ints .u64 5 x), (V.ints .u8 32 e)] ++ List.replicate 25 V.un, []⟩ := by
  rw [powF_h]
  exact powF_l x e _ (fun _ _ _ _ _ _ _ _ _ _ _ _ _ _ _ _ _ _ => by rw [powF_x]; exact okV_refl rfl) 256 0 300 (by omega) (by omega) _ _ _ _ _ _ _ _ _ _ _ _ _ _ _ _ _ _

def g46 : List V → Option (Bool × V) := fun | [.ints .u64 5 x, .ints .u8 32 e] => some (true, (V.ints .u64 5 (powF x e))) | _ => none
theorem powF_p (x : (Nat → Int)) (e : (Nat → Int)) : (∀ μ μ', V.den μ' (V.ints .u64 5 (powF x e)) = V.den μ (V.ints .u64 5 (powF x e))) ∧ ∀ μ w, PureAt Try.prog 46 (([(V.ints .u64 5 x), (V.ints .u8 32 e)] : List V).map (V.den μ)).toArray (V.den μ (V.ints .u64 5 (powF x e))) w :=
  pure_ok (F := o45) (N := 300) (fn := Try.f46) (args := [(V.ints .u64 5 x), (V.ints .u8 32 e)]) (r := (V.ints .u64 5 (powF x e))) (n := 25) hM o45_ok (noG_ok _) Try.func46 (by kernel_rfl) (by kernel_rfl) (by kernel_rfl) (by kernel_rfl) (powF_a x e) (by kernel_rfl)
theorem g46_ok (vs : List V) (v : V) (h : g46 vs = some (true, v)) : (∀ μ μ', v.den μ' = v.den μ) ∧ ∀ μ w, PureAt Try.prog 46 (vs.map (V.den μ)).toArray (v.den μ) w := by
  unfold g46 at h
  split at h
  · simp only [Option.some.injEq, Prod.mk.injEq, true_and] at h
    subst h
    exact powF_p _ _
  · simp at h
def o46 : Orc := ext 46 g46 o45
theorem o46_ok : OrcOK Try.prog o46 := ext_ok o45_ok g46_ok
end Go.Proofs.Ytbnclikjbnfodaa

namespace Go.Proofs.Ytbnclikjbnfodaa
open Go.Ev
theorem rPow_h (a0 : (Nat → Int)) (e : (Nat → Int)) (N : Nat) (K : V → List V → Prop) : awp Try.prog o46 noG N (body Try.f47) (ends Try.prog Try.f47 K) ⟨[(V.ints .u64 10 a0), (V.ints .u8 32 e)] ++ List.replicate 26 V.un, []⟩ = lp (awp Try.prog o46 noG N (loopOf (body Try.f47))) (spineQ Try.prog o46 noG N (body Try.f47) (ends Try.prog Try.f47 K)) N ⟨[(V.ints .u64 10 a0), (V.ints .u8 32 e), (V.ptr 0 0), (V.ptr 1 0), (V.ptr 2 0), (V.ptr 3 0), (V.int .i64 255), (V.ints .u64 10 (rSmall 1)), V.un, V.un, V.un, V.un, V.un, V.un, V.un, V.un, V.un, V.un, V.un, V.un, V.un, V.un, V.un, V.un, V.un, V.un, V.un, V.un], [(V.ints .u64 10 a0), (V.ints .u8 32 e), (V.ints .u64 10 (fun _ => 0)), (V.ints .u64 10 (rSmall 1))]⟩ := by kernel_rfl
theorem rPow_s (a0 : (Nat → Int)) (e : (Nat → Int)) (a : Nat → Int) (i : Int) (t8 t9 t10 t11 t12 t13 t14 t15 t16 t17 t18 t19 t20 t21 t22 t23 t24 t25 t26 : V) (Q : Exit → St → Prop) (n : Nat) : lp (awp Try.prog o46 noG 300 (loopOf (body Try.f47))) Q (n + 1) ⟨[(V.ints .u64 10 a0), (V.ints .u8 32 e), (V.ptr 0 0), (V.ptr 1 0), (V.ptr 2 0), (V.ptr 3 0), (V.int .i64 i), (V.ints .u64 10 (rSmall 1)), t8, t9, t10, t11, t12, t13, t14, t15, t16, t17, t18, t19, t20, t21, t22, t23, t24, t25, t26, V.un], [(V.ints .u64 10 a0), (V.ints .u8 32 e), (V.ints .u64 10 (fun _ => 0)), (V.ints .u64 10 a)]⟩ = (mB (decide (i ≥ 0)) (gB (decide (0 ≤ (quoI .i64 i 8) ∧ (quoI .i64 i 8) < 32)) (gB (Nat.blt (0 + (Int.toNat (quoI .i64 i 8) * 1)) 32) (gB (decide (0 ≤ (remI i 8))) (mB ((andI .u8 (shrI .u8 (e (0 + (Int.toNat (quoI .i64 i 8) * 1))) (remI i 8)) 1) == 1) (lp (awp Try.prog o46 noG 300 (loopOf (body Try.f47))) Q n ⟨[(V.ints .u64 10 a0), (V.ints .u8 32 e), (V.ptr 0 0), (V.ptr 1 0), (V.ptr 2 0), (V.ptr 3 0), (V.int .i64 (subI .i64 i 1)), (V.ints .u64 10 (rSmall 1)), (V.int .i64 i), (V.bool (decide (i ≥ 0))), (V.int .i64 i), (V.int .i64 (subI .i64 i 1)), (V.ints .u64 10 a), (V.ints .u64 10 a), (V.ints .u64 10 (rMul a a)), (V.int .i64 i), (V.int .i64 (quoI .i64 i 8)), (V.ptr 1 (0 + (Int.toNat (quoI .i64 i 8) * 1))), (V.int .u8 (e (0 + (Int.toNat (quoI .i64 i 8) * 1)))), (V.int .i64 i), (V.int .i64 (remI i 8)), (V.int .u8 (shrI .u8 (e (0 + (Int.toNat (quoI .i64 i 8) * 1))) (remI i 8))), (V.int .u8 (andI .u8 (shrI .u8 (e (0 + (Int.toNat (quoI .i64 i 8) * 1))) (remI i 8)) 1)), (V.bool ((andI .u8 (shrI .u8 (e (0 + (Int.toNat (quoI .i64 i 8) * 1))) (remI i 8)) 1) == 1)), (V.ints .u64 10 (rMul a a)), (V.ints .u64 10 a0), (V.ints .u64 10 (rMul (rMul a a) a0)), V.un], [(V.ints .u64 10 a0), (V.ints .u8 32 e), (V.ints .u64 10 (fun _ => 0)), (V.ints .u64 10 (rMul (rMul a a) a0))]⟩) (lp (awp Try.prog o46 noG 300 (loopOf (body Try.f47))) Q n ⟨[(V.ints .u64 10 a0), (V.ints .u8 32 e), (V.ptr 0 0), (V.ptr 1 0), (V.ptr 2 0), (V.ptr 3 0), (V.int .i64 (subI .i64 i 1)), (V.ints .u64 10 (rSmall 1)), (V.int .i64 i), (V.bool (decide (i ≥ 0))), (V.int .i64 i), (V.int .i64 (subI .i64 i 1)), (V.ints .u64 10 a), (V.ints .u64 10 a), (V.ints .u64 10 (rMul a a)), (V.int .i64 i), (V.int .i64 (quoI .i64 i 8)), (V.ptr 1 (0 + (Int.toNat (quoI .i64 i 8) * 1))), (V.int .u8 (e (0 + (Int.toNat (quoI .i64 i 8) * 1)))), (V.int .i64 i), (V.int .i64 (remI i 8)), (V.int .u8 (shrI .u8 (e (0 + (Int.toNat (quoI .i64 i 8) * 1))) (remI i 8))), (V.int .u8 (andI .u8 (shrI .u8 (e (0 + (Int.toNat (quoI .i64 i 8) * 1))) (remI i 8)) 1)), (V.bool ((andI .u8 (shrI .u8 (e (0 + (Int.toNat (quoI .i64 i 8) * 1))) (remI i 8)) 1) == 1)), t24, t25, t26, V.un], [(V.ints .u64 10 a0), (V.ints .u8 32 e), (V.ints .u64 10 (fun _ => 0)), (V.ints .u64 10 (rMul a a))]⟩))))) (Q (.exit 0) ⟨[(V.ints .u64 10 a0), (V.ints .u8 32 e), (V.ptr 0 0), (V.ptr 1 0), (V.ptr 2 0), (V.ptr 3 0), (V.int .i64 i), (V.ints .u64 10 (rSmall 1)), (V.int .i64 i), (V.bool (decide (i ≥ 0))), t10, t11, t12, t13, t14, t15, t16, t17, t18, t19, t20, t21, t22, t23, t24, t25, t26, V.un], [(V.ints .u64 10 a0), (V.ints .u8 32 e), (V.ints .u64 10 (fun _ => 0)), (V.ints .u64 10 a)]⟩)) := by kernel_rfl
theorem rPow_x (a0 : (Nat → Int)) (e : (Nat → Int)) (a : Nat → Int) (i : Int) (t8 t9 t10 t11 t12 t13 t14 t15 t16 t17 t18 t19 t20 t21 t22 t23 t24 t25 t26 : V) (R : V) : spineQ Try.prog o46 noG 300 (body Try.f47) (ends Try.prog Try.f47 fun v _ => okV R v) (.exit 0) ⟨[(V.ints .u64 10 a0), (V.ints .u8 32 e), (V.ptr 0 0), (V.ptr 1 0), (V.ptr 2 0), (V.ptr 3 0), (V.int .i64 i), (V.ints .u64 10 (rSmall 1)), t8, t9, t10, t11, t12, t13, t14, t15, t16, t17, t18, t19, t20, t21, t22, t23, t24, t25, t26, V.un], [(V.ints .u64 10 a0), (V.ints .u8 32 e), (V.ints .u64 10 (fun _ => 0)), (V.ints .u64 10 a)]⟩ = (okV R (V.ints .u64 10 a)) := by kernel_rfl

/-- The content behind one round more. -/
def rPow_st (a0 : (Nat → Int)) (e : (Nat → Int)) (i : Int) (a : Nat → Int) : Nat → Int := (cond ((andI .u8 (shrI .u8 (e (0 + (Int.toNat (quoI .i64 i 8) * 1))) (remI i 8)) 1) == 1) (rMul (rMul a a) a0) (rMul a a))
def rPow_it (a0 : (Nat → Int)) (e : (Nat → Int)) : Nat → (Nat → Int)
  | 0 => (rSmall 1)
  | k + 1 => rPow_st a0 e ((256 - 1 - k : Nat) : Int) (rPow_it a0 e k)
theorem rPow_l (a0 : (Nat → Int)) (e : (Nat → Int)) (Q : Exit → St → Prop) (hQ : ∀ (t8 t9 t10 t11 t12 t13 t14 t15 t16 t17 t18 t19 t20 t21 t22 t23 t24 t25 t26 : V), Q (.exit 0) ⟨[(V.ints .u64 10 a0), (V.ints .u8 32 e), (V.ptr 0 0), (V.ptr 1 0), (V.ptr 2 0), (V.ptr 3 0), (V.int .i64 (((256 : Nat) : Int) - 1 - ((256 : Nat) : Int))), (V.ints .u64 10 (rSmall 1)), t8, t9, t10, t11, t12, t13, t14, t15, t16, t17, t18, t19, t20, t21, t22, t23, t24, t25, t26, V.un], [(V.ints .u64 10 a0), (V.ints .u8 32 e), (V.ints .u64 10 (fun _ => 0)), (V.ints .u64 10 (rPow_it a0 e 256))]⟩) : ∀ (d k n : Nat), k + d = 256 → d + 1 ≤ n → ∀ (t8 t9 t10 t11 t12 t13 t14 t15 t16 t17 t18 t19 t20 t21 t22 t23 t24 t25 t26 : V), lp (awp Try.prog o46 noG 300 (loopOf (body Try.f47))) Q n ⟨[(V.ints .u64 10 a0), (V.ints .u8 32 e), (V.ptr 0 0), (V.ptr 1 0), (V.ptr 2 0), (V.ptr 3 0), (V.int .i64 (((256 : Nat) : Int) - 1 - (k : Int))), (V.ints .u64 10 (rSmall 1)), t8, t9, t10, t11, t12, t13, t14, t15, t16, t17, t18, t19, t20, t21, t22, t23, t24, t25, t26, V.un], [(V.ints .u64 10 a0), (V.ints .u8 32 e), (V.ints .u64 10 (fun _ => 0)), (V.ints .u64 10 (rPow_it a0 e k))]⟩
  | 0, k, n, hk, hn, t8, t9, t10, t11, t12, t13, t14, t15, t16, t17, t18, t19, t20, t21, t22, t23, t24, t25, t26 => by
    obtain ⟨n, rfl⟩ : ∃ m, n = m + 1 := ⟨n - 1, by omega⟩
    obtain rfl : k = 256 := by omega
    rw [rPow_s]
    refine mBt (fun h => absurd (of_decide_eq_true h) (by simp)) (fun _ => ?_)
    exact hQ _ _ _ _ _ _ _ _ _ _ _ _ _ _ _ _ _ _ _
  | d + 1, k, n, hk, hn, t8, t9, t10, t11, t12, t13, t14, t15, t16, t17, t18, t19, t20, t21, t22, t23, t24, t25, t26 => by
    obtain ⟨n, rfl⟩ : ∃ m, n = m + 1 := ⟨n - 1, by omega⟩
    have hi : (0 : Int) ≤ (((256 : Nat) : Int) - 1 - (k : Int)) ∧ (((256 : Nat) : Int) - 1 - (k : Int)) < 256 := by omega
    have hix : (((256 : Nat) : Int) - 1 - (k : Int)) = ((256 - 1 - k : Nat) : Int) := by omega
    rw [hix] at hi ⊢
    have g0 : (decide (0 ≤ (quoI .i64 ((256 - 1 - k : Nat) : Int) 8) ∧ (quoI .i64 ((256 - 1 - k : Nat) : Int) 8) < 32)) = true := by first | (rw [show quoI .i64 ((256 - 1 - k : Nat) : Int) 8 = (((256 - 1 - k) / 8 : Nat) : Int) from quo_nat (256 - 1 - k) 8 (by omega)]; exact bltT.2 (by simp; omega)) | (rw [show quoI .i64 ((256 - 1 - k : Nat) : Int) 8 = (((256 - 1 - k) / 8 : Nat) : Int) from quo_nat (256 - 1 - k) 8 (by omega)]; simp; omega) | (rw [show remI ((256 - 1 - k : Nat) : Int) 8 = (((256 - 1 - k) % 8 : Nat) : Int) from rem_nat (256 - 1 - k) 8]; simp; omega)
    have g1 : (Nat.blt (0 + (Int.toNat (quoI .i64 ((256 - 1 - k : Nat) : Int) 8) * 1)) 32) = true := by first | (rw [show quoI .i64 ((256 - 1 - k : Nat) : Int) 8 = (((256 - 1 - k) / 8 : Nat) : Int) from quo_nat (256 - 1 - k) 8 (by omega)]; exact bltT.2 (by simp; omega)) | (rw [show quoI .i64 ((256 - 1 - k : Nat) : Int) 8 = (((256 - 1 - k) / 8 : Nat) : Int) from quo_nat (256 - 1 - k) 8 (by omega)]; simp; omega) | (rw [show remI ((256 - 1 - k : Nat) : Int) 8 = (((256 - 1 - k) % 8 : Nat) : Int) from rem_nat (256 - 1 - k) 8]; simp; omega)
    have g2 : (decide (0 ≤ (remI ((256 - 1 - k : Nat) : Int) 8))) = true := by first | (rw [show quoI .i64 ((256 - 1 - k : Nat) : Int) 8 = (((256 - 1 - k) / 8 : Nat) : Int) from quo_nat (256 - 1 - k) 8 (by omega)]; exact bltT.2 (by simp; omega)) | (rw [show quoI .i64 ((256 - 1 - k : Nat) : Int) 8 = (((256 - 1 - k) / 8 : Nat) : Int) from quo_nat (256 - 1 - k) 8 (by omega)]; simp; omega) | (rw [show remI ((256 - 1 - k : Nat) : Int) 8 = (((256 - 1 - k) % 8 : Nat) : Int) from rem_nat (256 - 1 - k) 8]; simp; omega)
    have hnx : (subI .i64 ((256 - 1 - k : Nat) : Int) 1) = (((256 : Nat) : Int) - 1 - ((k + 1 : Nat) : Int)) := by rw [sub1_nat _ (by omega)]; omega
    rw [rPow_s]
    refine mBt (fun _ => ?_) (fun h => absurd hi.1 (of_decide_eq_false h))
    refine gm g0 ?_
    refine gm g1 ?_
    refine gm g2 ?_
    refine mBt (fun c0 => ?_) (fun c0 => ?_)
    · rw [hnx]
      have h := rPow_l a0 e Q hQ d (k + 1) n (by omega) (by omega)
      simp only [rPow_it, rPow_st, c0, cond_true] at h
      exact h _ _ _ _ _ _ _ _ _ _ _ _ _ _ _ _ _ _ _
    · rw [hnx]
      have h := rPow_l a0 e Q hQ d (k + 1) n (by omega) (by omega)
      simp only [rPow_it, rPow_st, c0, cond_false] at h
      exact h _ _ _ _ _ _ _ _ _ _ _ _ _ _ _ _ _ _ _

def rPow (a0 e : Nat → Int) : Nat → Int := rPow_it a0 e 256
theorem rPow_a (a0 : (Nat → Int)) (e : (Nat → Int)) : awp Try.prog o46 noG 300 (body Try.f47) (ends Try.prog Try.f47 fun v _ => okV (V.ints .u64 10 (rPow a0 e)) v) ⟨[(V.ints .u64 10 a0), (V.ints .u8 32 e)] ++ List.replicate 26 V.un, []⟩ := by
  rw [rPow_h]
  exact rPow_l a0 e _ (fun _ _ _ _ _ _ _ _ _ _ _ _ _ _ _ _ _ _ _ => by rw [rPow_x]; exact okV_refl rfl) 256 0 300 (by omega) (by omega) _ _ _ _ _ _ _ _ _ _ _ _ _ _ _ _ _ _ _

def g47 : List V → Option (Bool × V) := fun | [.ints .u64 10 a0, .ints .u8 32 e] => some (true, (V.ints .u64 10 (rPow a0 e))) | _ => none
theorem rPow_p (a0 : (Nat → Int)) (e : (Nat → Int)) : (∀ μ μ', V.den μ' (V.ints .u64 10 (rPow a0 e)) = V.den μ (V.ints .u64 10 (rPow a0 e))) ∧ ∀ μ w, PureAt Try.prog 47 (([(V.ints .u64 10 a0), (V.ints .u8 32 e)] : List V).map (V.den μ)).toArray (V.den μ (V.ints .u64 10 (rPow a0 e))) w :=
  pure_ok (F := o46) (N := 300) (fn := Try.f47) (args := [(V.ints .u64 10 a0), (V.ints .u8 32 e)]) (r := (V.ints .u64 10 (rPow a0 e))) (n := 26) hM o46_ok (noG_ok _) Try.func47 (by kernel_rfl) (by kernel_rfl) (by kernel_rfl) (by kernel_rfl) (rPow_a a0 e) (by kernel_rfl)
theorem g47_ok (vs : List V) (v : V) (h : g47 vs = some (true, v)) : (∀ μ μ', v.den μ' = v.den μ) ∧ ∀ μ w, PureAt Try.prog 47 (vs.map (V.den μ)).toArray (v.den μ) w := by
  unfold g47 at h
  split at h
  · simp only [Option.some.injEq, Prod.mk.injEq, true_and] at h
    subst h
    exact rPow_p _ _
  · simp at h
def o47 : Orc := ext 47 g47 o46
theorem o47_ok : OrcOK Try.prog o47 := ext_ok o46_ok g47_ok

/- field.power -/
def power255 (low : Int) (high : Int) : (Nat → Int) := (L [low, 255, 255, 255, 255, 255, 255, 255, 255, 255, 255, 255, 255, 255, 255, 255, 255, 255, 255, 255, 255, 255, 255, 255, 255, 255, 255, 255, 255, 255, 255, high])
theorem power255_t (low : Int) (high : Int) : awp Try.prog o47 noG 300 (body Try.f90) (ends Try.prog Try.f90 fun v _ => okV (V.ints .u8 32 (power255 low high)) v) ⟨[(V.int .u8 low), (V.int .u8 high)] ++ List.replicate 16 V.un, []⟩ = ((V.ints .u8 32 (power255 low high)).den z0 = (V.ints .u8 32 (power255 low high)).den z0) := by kernel_rfl
theorem power255_a (low : Int) (high : Int) : awp Try.prog o47 noG 300 (body Try.f90) (ends Try.prog Try.f90 fun v _ => okV (V.ints .u8 32 (power255 low high)) v) ⟨[(V.int .u8 low), (V.int .u8 high)] ++ List.replicate 16 V.un, []⟩ := by rw [power255_t]
def g90 : List V → Option (Bool × V) := fun | [.int .u8 low, .int .u8 high] => some (true, (V.ints .u8 32 (power255 low high))) | _ => none
theorem power255_p (low : Int) (high : Int) : (∀ μ μ', V.den μ' (V.ints .u8 32 (power255 low high)) = V.den μ (V.ints .u8 32 (power255 low high))) ∧ ∀ μ w, PureAt Try.prog 90 (([(V.int .u8 low), (V.int .u8 high)] : List V).map (V.den μ)).toArray (V.den μ (V.ints .u8 32 (power255 low high))) w :=
  pure_ok (F := o47) (N := 300) (fn := Try.f90) (args := [(V.int .u8 low), (V.int .u8 high)]) (r := (V.ints .u8 32 (power255 low high))) (n := 16) hM o47_ok (noG_ok _) Try.func90 (by kernel_rfl) (by kernel_rfl) (by kernel_rfl) (by kernel_rfl) (power255_a low high) (by kernel_rfl)
theorem g90_ok (vs : List V) (v : V) (h : g90 vs = some (true, v)) : (∀ μ μ', v.den μ' = v.den μ) ∧ ∀ μ w, PureAt Try.prog 90 (vs.map (V.den μ)).toArray (v.den μ) w := by
  unfold g90 at h
  split at h
  · simp only [Option.some.injEq, Prod.mk.injEq, true_and] at h
    subst h
    exact power255_p _ _
  · simp at h
def o90 : Orc := ext 90 g90 o47
theorem o90_ok : OrcOK Try.prog o90 := ext_ok o47_ok g90_ok

/- fareboxref05.Power -/
def rPower (low : Int) (high : Int) : (Nat → Int) := (L [low, 255, 255, 255, 255, 255, 255, 255, 255, 255, 255, 255, 255, 255, 255, 255, 255, 255, 255, 255, 255, 255, 255, 255, 255, 255, 255, 255, 255, 255, 255, high])
theorem rPower_t (low : Int) (high : Int) : awp Try.prog o90 noG 300 (body Try.f91) (ends Try.prog Try.f91 fun v _ => okV (V.ints .u8 32 (rPower low high)) v) ⟨[(V.int .u8 low), (V.int .u8 high)] ++ List.replicate 16 V.un, []⟩ = ((V.ints .u8 32 (rPower low high)).den z0 = (V.ints .u8 32 (rPower low high)).den z0) := by kernel_rfl
theorem rPower_a (low : Int) (high : Int) : awp Try.prog o90 noG 300 (body Try.f91) (ends Try.prog Try.f91 fun v _ => okV (V.ints .u8 32 (rPower low high)) v) ⟨[(V.int .u8 low), (V.int .u8 high)] ++ List.replicate 16 V.un, []⟩ := by rw [rPower_t]
def g91 : List V → Option (Bool × V) := fun | [.int .u8 low, .int .u8 high] => some (true, (V.ints .u8 32 (rPower low high))) | _ => none
theorem rPower_p (low : Int) (high : Int) : (∀ μ μ', V.den μ' (V.ints .u8 32 (rPower low high)) = V.den μ (V.ints .u8 32 (rPower low high))) ∧ ∀ μ w, PureAt Try.prog 91 (([(V.int .u8 low), (V.int .u8 high)] : List V).map (V.den μ)).toArray (V.den μ (V.ints .u8 32 (rPower low high))) w :=
  pure_ok (F := o90) (N := 300) (fn := Try.f91) (args := [(V.int .u8 low), (V.int .u8 high)]) (r := (V.ints .u8 32 (rPower low high))) (n := 16) hM o90_ok (noG_ok _) Try.func91 (by kernel_rfl) (by kernel_rfl) (by kernel_rfl) (by kernel_rfl) (rPower_a low high) (by kernel_rfl)
theorem g91_ok (vs : List V) (v : V) (h : g91 vs = some (true, v)) : (∀ μ μ', v.den μ' = v.den μ) ∧ ∀ μ w, PureAt Try.prog 91 (vs.map (V.den μ)).toArray (v.den μ) w := by
  unfold g91 at h
  split at h
  · simp only [Option.some.injEq, Prod.mk.injEq, true_and] at h
    subst h
    exact rPower_p _ _
  · simp at h
def o91 : Orc := ext 91 g91 o90
theorem o91_ok : OrcOK Try.prog o91 := ext_ok o90_ok g91_ok

/- field.Invert -/
def invertF (x : (Nat → Int)) : (Nat → Int) := (powF x (power255 235 127))
theorem invertF_t (x : (Nat → Int)) : awp Try.prog o91 noG 300 (body Try.f48) (ends Try.prog Try.f48 fun v _ => okV (V.ints .u64 5 (invertF x)) v) ⟨[(V.ints .u64 5 x)] ++ List.replicate 5 V.un, []⟩ = ((V.ints .u64 5 (invertF x)).den z0 = (V.ints .u64 5 (invertF x)).den z0) := by kernel_rfl
theorem invertF_a (x : (Nat → Int)) : awp Try.prog o91 noG 300 (body Try.f48) (ends Try.prog Try.f48 fun v _ => okV (V.ints .u64 5 (invertF x)) v) ⟨[(V.ints .u64 5 x)] ++ List.replicate 5 V.un, []⟩ := by rw [invertF_t]
def g48 : List V → Option (Bool × V) := fun | [.ints .u64 5 x] => some (true, (V.ints .u64 5 (invertF x))) | _ => none
theorem invertF_p (x : (Nat → Int)) : (∀ μ μ', V.den μ' (V.ints .u64 5 (invertF x)) = V.den μ (V.ints .u64 5 (invertF x))) ∧ ∀ μ w, PureAt Try.prog 48 (([(V.ints .u64 5 x)] : List V).map (V.den μ)).toArray (V.den μ (V.ints .u64 5 (invertF x))) w :=
  pure_ok (F := o91) (N := 300) (fn := Try.f48) (args := [(V.ints .u64 5 x)]) (r := (V.ints .u64 5 (invertF x))) (n := 5) hM o91_ok (noG_ok _) Try.func48 (by kernel_rfl) (by kernel_rfl) (by kernel_rfl) (by kernel_rfl) (invertF_a x) (by kernel_rfl)
theorem g48_ok (vs : List V) (v : V) (h : g48 vs = some (true, v)) : (∀ μ μ', v.den μ' = v.den μ) ∧ ∀ μ w, PureAt Try.prog 48 (vs.map (V.den μ)).toArray (v.den μ) w := by
  unfold g48 at h
  split at h
  · simp only [Option.some.injEq, Prod.mk.injEq, true_and] at h
    subst h
    exact invertF_p _
  · simp at h
def o48 : Orc := ext 48 g48 o91
theorem o48_ok : OrcOK Try.prog o48 := ext_ok o91_ok g48_ok

/- fareboxref05.Invert -/
def rInvert (a : (Nat → Int)) : (Nat → Int) := (rPow a (rPower 235 127))
set_option maxRecDepth 100000 in
theorem rInvert_t (a : (Nat → Int)) : awp Try.prog o48 noG 300 (body Try.f49) (ends Try.prog Try.f49 fun v _ => okV (V.ints .u64 10 (rInvert a)) v) ⟨[(V.ints .u64 10 a)] ++ List.replicate 5 V.un, []⟩ = ((V.ints .u64 10 (rInvert a)).den z0 = (V.ints .u64 10 (rInvert a)).den z0) := by kernel_rfl
theorem rInvert_a (a : (Nat → Int)) : awp Try.prog o48 noG 300 (body Try.f49) (ends Try.prog Try.f49 fun v _ => okV (V.ints .u64 10 (rInvert a)) v) ⟨[(V.ints .u64 10 a)] ++ List.replicate 5 V.un, []⟩ := by rw [rInvert_t]
def g49 : List V → Option (Bool × V) := fun | [.ints .u64 10 a] => some (true, (V.ints .u64 10 (rInvert a))) | _ => none
theorem rInvert_p (a : (Nat → Int)) : (∀ μ μ', V.den μ' (V.ints .u64 10 (rInvert a)) = V.den μ (V.ints .u64 10 (rInvert a))) ∧ ∀ μ w, PureAt Try.prog 49 (([(V.ints .u64 10 a)] : List V).map (V.den μ)).toArray (V.den μ (V.ints .u64 10 (rInvert a))) w :=
  pure_ok (F := o48) (N := 300) (fn := Try.f49) (args := [(V.ints .u64 10 a)]) (r := (V.ints .u64 10 (rInvert a))) (n := 5) hM o48_ok (noG_ok _) Try.func49 (by kernel_rfl) (by kernel_rfl) (by kernel_rfl) (by kernel_rfl) (rInvert_a a) (by kernel_rfl)
theorem g49_ok (vs : List V) (v : V) (h : g49 vs = some (true, v)) : (∀ μ μ', v.den μ' = v.den μ) ∧ ∀ μ w, PureAt Try.prog 49 (vs.map (V.den μ)).toArray (v.den μ) w := by
  unfold g49 at h
  split at h
  · simp only [Option.some.injEq, Prod.mk.injEq, true_and] at h
    subst h
    exact rInvert_p _
  · simp at h
def o49 : Orc := ext 49 g49 o48
theorem o49_ok : OrcOK Try.prog o49 := ext_ok o48_ok g49_ok

theorem isEO_ex : ∃ f : (Nat → Int) → (Nat → Int) → Bool, f = isE := ⟨_, rfl⟩
/-- isE, by a name that is not unfolded. -/
noncomputable def isEO : (Nat → Int) → (Nat → Int) → Bool := Classical.choose isEO_ex
theorem isEO_eq : isEO = isE := Classical.choose_spec isEO_ex
noncomputable def g27O : List V → Option (Bool × V) := fun | [.ints .u64 5 x, .ints .u64 10 a] => some (true, (V.bool (isEO x a))) | _ => none
theorem g27O_ok (vs : List V) (v : V) (h : g27O vs = some (true, v)) : (∀ μ μ', v.den μ' = v.den μ) ∧ ∀ μ w, PureAt Try.prog 27 (vs.map (V.den μ)).toArray (v.den μ) w := by
  unfold g27O at h
  split at h
  · simp only [Option.some.injEq, Prod.mk.injEq, true_and] at h
    subst h
    rw [isEO_eq]
    exact isE_p _ _
  · simp at h
noncomputable def o27O : Orc := ext 27 g27O o49
theorem o27O_ok : OrcOK Try.prog o27O := ext_ok o49_ok g27O_ok

theorem powFO_ex : ∃ f : (Nat → Int) → (Nat → Int) → (Nat → Int), f = powF := ⟨_, rfl⟩
/-- powF, by a name that is not unfolded. -/
noncomputable def powFO : (Nat → Int) → (Nat → Int) → (Nat → Int) := Classical.choose powFO_ex
theorem powFO_eq : powFO = powF := Classical.choose_spec powFO_ex
noncomputable def g46O : List V → Option (Bool × V) := fun | [.ints .u64 5 x, .ints .u8 32 e] => some (true, (V.ints .u64 5 (powFO x e))) | _ => none
theorem g46O_ok (vs : List V) (v : V) (h : g46O vs = some (true, v)) : (∀ μ μ', v.den μ' = v.den μ) ∧ ∀ μ w, PureAt Try.prog 46 (vs.map (V.den μ)).toArray (v.den μ) w := by
  unfold g46O at h
  split at h
  · simp only [Option.some.injEq, Prod.mk.injEq, true_and] at h
    subst h
    rw [powFO_eq]
    exact powF_p _ _
  · simp at h
noncomputable def o46O : Orc := ext 46 g46O o27O
theorem o46O_ok : OrcOK Try.prog o46O := ext_ok o27O_ok g46O_ok

theorem rPowO_ex : ∃ f : (Nat → Int) → (Nat → Int) → (Nat → Int), f = rPow := ⟨_, rfl⟩
/-- rPow, by a name that is not unfolded. -/
noncomputable def rPowO : (Nat → Int) → (Nat → Int) → (Nat → Int) := Classical.choose rPowO_ex
theorem rPowO_eq : rPowO = rPow := Classical.choose_spec rPowO_ex
noncomputable def g47O : List V → Option (Bool × V) := fun | [.ints .u64 10 a0, .ints .u8 32 e] => some (true, (V.ints .u64 10 (rPowO a0 e))) | _ => none
theorem g47O_ok (vs : List V) (v : V) (h : g47O vs = some (true, v)) : (∀ μ μ', v.den μ' = v.den μ) ∧ ∀ μ w, PureAt Try.prog 47 (vs.map (V.den μ)).toArray (v.den μ) w := by
  unfold g47O at h
  split at h
  · simp only [Option.some.injEq, Prod.mk.injEq, true_and] at h
    subst h
    rw [rPowO_eq]
    exact rPow_p _ _
  · simp at h
noncomputable def o47O : Orc := ext 47 g47O o46O
theorem o47O_ok : OrcOK Try.prog o47O := ext_ok o46O_ok g47O_ok

theorem invertFO_ex : ∃ f : (Nat → Int) → (Nat → Int), f = invertF := ⟨_, rfl⟩
/-- invertF, by a name that is not unfolded. -/
noncomputable def invertFO : (Nat → Int) → (Nat → Int) := Classical.choose invertFO_ex
theorem invertFO_eq : invertFO = invertF := Classical.choose_spec invertFO_ex
noncomputable def g48O : List V → Option (Bool × V) := fun | [.ints .u64 5 x] => some (true, (V.ints .u64 5 (invertFO x))) | _ => none
theorem g48O_ok (vs : List V) (v : V) (h : g48O vs = some (true, v)) : (∀ μ μ', v.den μ' = v.den μ) ∧ ∀ μ w, PureAt Try.prog 48 (vs.map (V.den μ)).toArray (v.den μ) w := by
  unfold g48O at h
  split at h
  · simp only [Option.some.injEq, Prod.mk.injEq, true_and] at h
    subst h
    rw [invertFO_eq]
    exact invertF_p _
  · simp at h
noncomputable def o48O : Orc := ext 48 g48O o47O
theorem o48O_ok : OrcOK Try.prog o48O := ext_ok o47O_ok g48O_ok

theorem rInvertO_ex : ∃ f : (Nat → Int) → (Nat → Int), f = rInvert := ⟨_, rfl⟩
/-- rInvert, by a name that is not unfolded. -/
noncomputable def rInvertO : (Nat → Int) → (Nat → Int) := Classical.choose rInvertO_ex
theorem rInvertO_eq : rInvertO = rInvert := Classical.choose_spec rInvertO_ex
noncomputable def g49O : List V → Option (Bool × V) := fun | [.ints .u64 10 a] => some (true, (V.ints .u64 10 (rInvertO a))) | _ => none
theorem g49O_ok (vs : List V) (v : V) (h : g49O vs = some (true, v)) : (∀ μ μ', v.den μ' = v.den μ) ∧ ∀ μ w, PureAt Try.prog 49 (vs.map (V.den μ)).toArray (v.den μ) w := by
  unfold g49O at h
  split at h
  · simp only [Option.some.injEq, Prod.mk.injEq, true_and] at h
    subst h
    rw [rInvertO_eq]
    exact rInvert_p _
  · simp at h
noncomputable def o49O : Orc := ext 49 g49O o48O
theorem o49O_ok : OrcOK Try.prog o49O := ext_ok o48O_ok g49O_ok

theorem rOfO_ex : ∃ f : (Nat → Int) → (Nat → Int), f = rOf := ⟨_, rfl⟩
/-- rOf, by a name that is not unfolded. -/
noncomputable def rOfO : (Nat → Int) → (Nat → Int) := Classical.choose rOfO_ex
theorem rOfO_eq : rOfO = rOf := Classical.choose_spec rOfO_ex
noncomputable def g21O : List V → Option (Bool × V) := fun | [.ints .u64 5 x] => some (true, (V.ints .u64 10 (rOfO x))) | _ => none
theorem g21O_ok (vs : List V) (v : V) (h : g21O vs = some (true, v)) : (∀ μ μ', v.den μ' = v.den μ) ∧ ∀ μ w, PureAt Try.prog 21 (vs.map (V.den μ)).toArray (v.den μ) w := by
  unfold g21O at h
  split at h
  · simp only [Option.some.injEq, Prod.mk.injEq, true_and] at h
    subst h
    rw [rOfO_eq]
    exact rOf_p _
  · simp at h
noncomputable def o21O : Orc := ext 21 g21O o49O
theorem o21O_ok : OrcOK Try.prog o21O := ext_ok o49O_ok g21O_ok
end Go.Proofs.Ytbnclikjbnfodaa

namespace Go.Proofs.Ytbnclikjbnfodaa
open Go.Ev
/- fareboxlaw05.FieldPowers -/
noncomputable def lawPowers (x : (Nat → Int)) (e : (Nat → Int)) : Bool := (cond (isEO (powFO x e) (rPowO (rOfO x) e)) (isEO (invertFO x) (rInvertO (rOfO x))) false)
theorem lawPowers_t (x : (Nat → Int)) (e : (Nat → Int)) : awp Try.prog o21O noG 300 (body Try.f7) (ends Try.prog Try.f7 fun v _ => okV (V.bool (lawPowers x e)) v) ⟨[(V.ints .u64 5 x), (V.ints .u8 32 e)] ++ List.replicate 20 V.un, []⟩ = (mB (isEO (powFO x e) (rPowO (rOfO x) e)) ((V.bool (isEO (invertFO x) (rInvertO (rOfO x)))).den z0 = (V.bool (lawPowers x e)).den z0) ((V.bool false).den z0 = (V.bool (lawPowers x e)).den z0)) := by kernel_rfl
theorem lawPowers_a (x : (Nat → Int)) (e : (Nat → Int)) : awp Try.prog o21O noG 300 (body Try.f7) (ends Try.prog Try.f7 fun v _ => okV (V.bool (lawPowers x e)) v) ⟨[(V.ints .u64 5 x), (V.ints .u8 32 e)] ++ List.replicate 20 V.un, []⟩ := by
  rw [lawPowers_t]
  refine mBt (fun h1 => ?_) (fun h1 => ?_)
  · simp only [lawPowers, h1, cond_true]
  · simp only [lawPowers, h1, cond_false]
noncomputable def g7 : List V → Option (Bool × V) := fun | [.ints .u64 5 x, .ints .u8 32 e] => some (true, (V.bool (lawPowers x e))) | _ => none
theorem lawPowers_p (x : (Nat → Int)) (e : (Nat → Int)) : (∀ μ μ', V.den μ' (V.bool (lawPowers x e)) = V.den μ (V.bool (lawPowers x e))) ∧ ∀ μ w, PureAt Try.prog 7 (([(V.ints .u64 5 x), (V.ints .u8 32 e)] : List V).map (V.den μ)).toArray (V.den μ (V.bool (lawPowers x e))) w :=
  pure_ok (F := o21O) (N := 300) (fn := Try.f7) (args := [(V.ints .u64 5 x), (V.ints .u8 32 e)]) (r := (V.bool (lawPowers x e))) (n := 20) hM o21O_ok (noG_ok _) Try.func7 (by kernel_rfl) (by kernel_rfl) (by kernel_rfl) (by kernel_rfl) (lawPowers_a x e) (by kernel_rfl)
theorem g7_ok (vs : List V) (v : V) (h : g7 vs = some (true, v)) : (∀ μ μ', v.den μ' = v.den μ) ∧ ∀ μ w, PureAt Try.prog 7 (vs.map (V.den μ)).toArray (v.den μ) w := by
  unfold g7 at h
  split at h
  · simp only [Option.some.injEq, Prod.mk.injEq, true_and] at h
    subst h
    exact lawPowers_p _ _
  · simp at h
noncomputable def o7 : Orc := ext 7 g7 o21O
theorem o7_ok : OrcOK Try.prog o7 := ext_ok o21O_ok g7_ok
end Go.Proofs.Ytbnclikjbnfodaa

/-
  Powers, bit by bit from the highest on. Conditions: none.
-/
namespace Go.Proofs.Ytbnclikjbnfodaa
open Go.Ev Go.Num

theorem pow_emod' (a : Int) (n : Nat) : (a % p) ^ n % p = a ^ n % p := by
  induction n with
  | zero => simp
  | succ n ih => rw [Int.pow_succ, Int.pow_succ, Int.mul_emod, ih, Int.emod_emod_of_dvd _ (Int.dvd_refl p), ← Int.mul_emod]
theorem pw_sq (X : Int) (m : Nat) : (X ^ m % p * (X ^ m % p)) % p = X ^ (2 * m) % p := by
  rw [← Int.mul_emod, ← Int.pow_add, show m + m = 2 * m by omega]
theorem pw_mul (X : Int) (n : Nat) : (X ^ n % p * X) % p = X ^ (n + 1) % p := by
  rw [Int.pow_succ, Int.mul_emod, Int.emod_emod_of_dvd _ (Int.dvd_refl p), ← Int.mul_emod]

theorem pow_bit {e : Nat → Int} (he : B32 e) {i : Nat} (hi : i < 256) : andI .u8 (shrI .u8 (e (0 + (Int.toNat (quoI .i64 (i : Int) 8) * 1))) (remI (i : Int) 8)) 1 = vb e / 2 ^ i % 2 := by
  rw [show quoI .i64 (i : Int) 8 = ((i / 8 : Nat) : Int) from quo_nat i 8 (by omega), show remI (i : Int) 8 = ((i % 8 : Nat) : Int) from rem_nat i 8]
  simp only [Int.toNat_natCast, Nat.mul_one, Nat.zero_add]
  rw [and8_1, shrU8 _ _ (by omega)]
  have := digit_bit (k := 8) (a := e) (n := 32) (m := i / 8) (r := i % 8) (fun j hj => by rw [← e8]; exact he j hj) (by omega) (by omega)
  rw [Nat.div_add_mod, ← e8] at this
  exact this.symm

theorem vb_bound {e : Nat → Int} (he : B32 e) : 0 ≤ vb e ∧ vb e < 2 ^ 256 := by
  have h := dv_bound (B := 256) (by omega) he
  exact ⟨h.1, h.2⟩

/-- The exponent behind one bit more. -/
theorem exp_step {E : Int} (h0 : 0 ≤ E) (i : Nat) : (E / 2 ^ i).toNat = 2 * (E / 2 ^ (i + 1)).toNat + (E / 2 ^ i % 2).toNat := by
  have h1 : E / 2 ^ (i + 1) = E / 2 ^ i / 2 := by rw [Int.pow_succ, Int.ediv_ediv_of_nonneg (Int.le_of_lt (pow_pos' (by omega) i))]
  have h2 : 0 ≤ E / 2 ^ i := Int.ediv_nonneg h0 (Int.le_of_lt (pow_pos' (by omega) i))
  rw [h1]; omega

theorem powF_v {x e : Nat → Int} (hx : U5 x) (he : B32 e) : ∀ k, k ≤ 256 → v5 (powF_it x e k) = v5 x ^ (vb e / 2 ^ (256 - k)).toNat % p ∧ R5 (powF_it x e k)
  | 0, _ => by
    obtain ⟨b0, b1⟩ := vb_bound he
    rw [show 256 - 0 = 256 from rfl, Int.ediv_eq_zero_of_lt b0 b1]
    obtain ⟨s1, s2⟩ := small_v (n := 1) (by omega) (by omega)
    exact ⟨by show v5 (smallF 1) = _; rw [s1, show Int.toNat 0 = 0 from rfl, Int.pow_zero]; decide, s2⟩
  | k + 1, hk => by
    obtain ⟨i1, i2⟩ := powF_v hx he k (by omega)
    have hs := exp_step (vb_bound he).1 (256 - 1 - k)
    rw [show 256 - 1 - k + 1 = 256 - k by omega] at hs
    have hb := pow_bit he (show 256 - 1 - k < 256 by omega)
    rw [show 256 - (k + 1) = 256 - 1 - k by omega]
    obtain ⟨q1, q2⟩ := mul_v i2.u i2.u
    rw [i1, pw_sq] at q1
    have ht : vb e / 2 ^ (256 - 1 - k) % 2 = 0 ∨ vb e / 2 ^ (256 - 1 - k) % 2 = 1 := by omega
    show v5 (powF_st x e _ _) = _ ∧ R5 (powF_st x e _ _)
    unfold powF_st squareF
    rw [hb]
    rcases ht with ht | ht
    · rw [ht] at hs ⊢
      rw [show ((0 : Int) == 1) = false from rfl, cond_false, hs]
      exact ⟨q1, q2⟩
    · rw [ht] at hs ⊢
      obtain ⟨r1, r2⟩ := mul_v q2.u hx
      rw [q1, pw_mul] at r1
      rw [show ((1 : Int) == 1) = true from rfl, cond_true, hs]
      exact ⟨r1, r2⟩

theorem rPow_v {x e : Nat → Int} (hx : D10 x) (he : B32 e) : ∀ k, k ≤ 256 → v10 (rPow_it x e k) = v10 x ^ (vb e / 2 ^ (256 - k)).toNat % p ∧ D10 (rPow_it x e k)
  | 0, _ => by
    obtain ⟨b0, b1⟩ := vb_bound he
    rw [show 256 - 0 = 256 from rfl, Int.ediv_eq_zero_of_lt b0 b1]
    obtain ⟨s1, s2⟩ := small_r (n := 1) (by omega) (by omega)
    exact ⟨by show v10 (rSmall 1) = _; rw [s1, show Int.toNat 0 = 0 from rfl, Int.pow_zero]; decide, s2⟩
  | k + 1, hk => by
    obtain ⟨i1, i2⟩ := rPow_v hx he k (by omega)
    have hs := exp_step (vb_bound he).1 (256 - 1 - k)
    rw [show 256 - 1 - k + 1 = 256 - k by omega] at hs
    have hb := pow_bit he (show 256 - 1 - k < 256 by omega)
    rw [show 256 - (k + 1) = 256 - 1 - k by omega]
    obtain ⟨q1, q2⟩ := mul_r i2 i2
    rw [i1, pw_sq] at q1
    have ht : vb e / 2 ^ (256 - 1 - k) % 2 = 0 ∨ vb e / 2 ^ (256 - 1 - k) % 2 = 1 := by omega
    show v10 (rPow_st x e _ _) = _ ∧ D10 (rPow_st x e _ _)
    unfold rPow_st
    rw [hb]
    rcases ht with ht | ht
    · rw [ht] at hs ⊢
      rw [show ((0 : Int) == 1) = false from rfl, cond_false, hs]
      exact ⟨q1, q2⟩
    · rw [ht] at hs ⊢
      obtain ⟨r1, r2⟩ := mul_r q2 hx
      rw [q1, pw_mul] at r1
      rw [show ((1 : Int) == 1) = true from rfl, cond_true, hs]
      exact ⟨r1, r2⟩

theorem pow_v {x e : Nat → Int} (hx : U5 x) (he : B32 e) : v5 (powF x e) = v5 x ^ (vb e).toNat % p ∧ R5 (powF x e) := by
  have h := powF_v hx he 256 (by omega)
  rw [Nat.sub_self, Int.pow_zero, Int.ediv_one] at h
  exact h
theorem pow_r {x e : Nat → Int} (hx : D10 x) (he : B32 e) : v10 (rPow x e) = v10 x ^ (vb e).toNat % p ∧ D10 (rPow x e) := by
  have h := rPow_v hx he 256 (by omega)
  rw [Nat.sub_self, Int.pow_zero, Int.ediv_one] at h
  exact h

theorem powerInv : B32 (power255 235 127) := by unfold B32; decide
theorem powerInv_v : vb (power255 235 127) = p - 2 := by decide
theorem rPower_eq (l h : Int) : rPower l h = power255 l h := rfl
theorem inv_v {x : Nat → Int} (hx : U5 x) : v5 (invertF x) = v5 x ^ (p - 2).toNat % p ∧ R5 (invertF x) := by
  have h := pow_v hx powerInv
  rw [powerInv_v] at h
  exact h
theorem inv_r {x : Nat → Int} (hx : D10 x) : v10 (rInvert x) = v10 x ^ (p - 2).toNat % p ∧ D10 (rInvert x) := by
  have h := pow_r hx powerInv
  rw [powerInv_v] at h
  exact h
end Go.Proofs.Ytbnclikjbnfodaa

/-
  FieldPowers answers true, of any limbs that uint64 holds and any bytes. Conditions: none.
-/
namespace Go.Proofs.Ytbnclikjbnfodaa
open Go.Ev Go.Num

theorem powers_true {x e : Nat → Int} (hx : U5 x) (he : B32 e) : lawPowers x e = true := by
  obtain ⟨a1, a2⟩ := of_r hx
  obtain ⟨s1, s2⟩ := pow_v hx he
  obtain ⟨t1, t2⟩ := pow_r a2 he
  obtain ⟨s3, s4⟩ := inv_v hx
  obtain ⟨t3, t4⟩ := inv_r a2
  have e1 := is_of s2 t2 (by rw [s1, t1, a1, pow_emod'])
  have e2 := is_of s4 t4 (by rw [s3, t3, a1, pow_emod'])
  unfold lawPowers
  rw [isEO_eq, powFO_eq, rPowO_eq, invertFO_eq, rInvertO_eq, rOfO_eq, e1, e2]
  rfl

end Go.Proofs.Ytbnclikjbnfodaa

namespace Go.Proofs.Ytbnclikjbnfodaa
open Go.Ev
theorem addFO_ex : ∃ f : (Nat → Int) → (Nat → Int) → (Nat → Int), f = addF := ⟨_, rfl⟩
/-- addF, by a name that is not unfolded. -/
noncomputable def addFO : (Nat → Int) → (Nat → Int) → (Nat → Int) := Classical.choose addFO_ex
theorem addFO_eq : addFO = addF := Classical.choose_spec addFO_ex
noncomputable def g29O : List V → Option (Bool × V) := fun | [.ints .u64 5 x, .ints .u64 5 y] => some (true, (V.ints .u64 5 (addFO x y))) | _ => none
theorem g29O_ok (vs : List V) (v : V) (h : g29O vs = some (true, v)) : (∀ μ μ', v.den μ' = v.den μ) ∧ ∀ μ w, PureAt Try.prog 29 (vs.map (V.den μ)).toArray (v.den μ) w := by
  unfold g29O at h
  split at h
  · simp only [Option.some.injEq, Prod.mk.injEq, true_and] at h
    subst h
    rw [addFO_eq]
    exact addF_p _ _
  · simp at h
noncomputable def o29O : Orc := ext 29 g29O o21O
theorem o29O_ok : OrcOK Try.prog o29O := ext_ok o21O_ok g29O_ok

theorem subFO_ex : ∃ f : (Nat → Int) → (Nat → Int) → (Nat → Int), f = subF := ⟨_, rfl⟩
/-- subF, by a name that is not unfolded. -/
noncomputable def subFO : (Nat → Int) → (Nat → Int) → (Nat → Int) := Classical.choose subFO_ex
theorem subFO_eq : subFO = subF := Classical.choose_spec subFO_ex
noncomputable def g31O : List V → Option (Bool × V) := fun | [.ints .u64 5 x, .ints .u64 5 y] => some (true, (V.ints .u64 5 (subFO x y))) | _ => none
theorem g31O_ok (vs : List V) (v : V) (h : g31O vs = some (true, v)) : (∀ μ μ', v.den μ' = v.den μ) ∧ ∀ μ w, PureAt Try.prog 31 (vs.map (V.den μ)).toArray (v.den μ) w := by
  unfold g31O at h
  split at h
  · simp only [Option.some.injEq, Prod.mk.injEq, true_and] at h
    subst h
    rw [subFO_eq]
    exact subF_p _ _
  · simp at h
noncomputable def o31O : Orc := ext 31 g31O o29O
theorem o31O_ok : OrcOK Try.prog o31O := ext_ok o29O_ok g31O_ok

theorem negFO_ex : ∃ f : (Nat → Int) → (Nat → Int), f = negF := ⟨_, rfl⟩
/-- negF, by a name that is not unfolded. -/
noncomputable def negFO : (Nat → Int) → (Nat → Int) := Classical.choose negFO_ex
theorem negFO_eq : negFO = negF := Classical.choose_spec negFO_ex
noncomputable def g33O : List V → Option (Bool × V) := fun | [.ints .u64 5 x] => some (true, (V.ints .u64 5 (negFO x))) | _ => none
theorem g33O_ok (vs : List V) (v : V) (h : g33O vs = some (true, v)) : (∀ μ μ', v.den μ' = v.den μ) ∧ ∀ μ w, PureAt Try.prog 33 (vs.map (V.den μ)).toArray (v.den μ) w := by
  unfold g33O at h
  split at h
  · simp only [Option.some.injEq, Prod.mk.injEq, true_and] at h
    subst h
    rw [negFO_eq]
    exact negF_p _
  · simp at h
noncomputable def o33O : Orc := ext 33 g33O o31O
theorem o33O_ok : OrcOK Try.prog o33O := ext_ok o31O_ok g33O_ok

theorem smallFO_ex : ∃ f : Int → (Nat → Int), f = smallF := ⟨_, rfl⟩
/-- smallF, by a name that is not unfolded. -/
noncomputable def smallFO : Int → (Nat → Int) := Classical.choose smallFO_ex
theorem smallFO_eq : smallFO = smallF := Classical.choose_spec smallFO_ex
noncomputable def g41O : List V → Option (Bool × V) := fun | [.int .u64 n] => some (true, (V.ints .u64 5 (smallFO n))) | _ => none
theorem g41O_ok (vs : List V) (v : V) (h : g41O vs = some (true, v)) : (∀ μ μ', v.den μ' = v.den μ) ∧ ∀ μ w, PureAt Try.prog 41 (vs.map (V.den μ)).toArray (v.den μ) w := by
  unfold g41O at h
  split at h
  · simp only [Option.some.injEq, Prod.mk.injEq, true_and] at h
    subst h
    rw [smallFO_eq]
    exact smallF_p _
  · simp at h
noncomputable def o41O : Orc := ext 41 g41O o33O
theorem o41O_ok : OrcOK Try.prog o41O := ext_ok o33O_ok g41O_ok

theorem mulFO_ex : ∃ f : (Nat → Int) → (Nat → Int) → (Nat → Int), f = mulF := ⟨_, rfl⟩
/-- mulF, by a name that is not unfolded. -/
noncomputable def mulFO : (Nat → Int) → (Nat → Int) → (Nat → Int) := Classical.choose mulFO_ex
theorem mulFO_eq : mulFO = mulF := Classical.choose_spec mulFO_ex
noncomputable def g43O : List V → Option (Bool × V) := fun | [.ints .u64 5 x, .ints .u64 5 y] => some (true, (V.ints .u64 5 (mulFO x y))) | _ => none
theorem g43O_ok (vs : List V) (v : V) (h : g43O vs = some (true, v)) : (∀ μ μ', v.den μ' = v.den μ) ∧ ∀ μ w, PureAt Try.prog 43 (vs.map (V.den μ)).toArray (v.den μ) w := by
  unfold g43O at h
  split at h
  · simp only [Option.some.injEq, Prod.mk.injEq, true_and] at h
    subst h
    rw [mulFO_eq]
    exact mulF_p _ _
  · simp at h
noncomputable def o43O : Orc := ext 43 g43O o41O
theorem o43O_ok : OrcOK Try.prog o43O := ext_ok o41O_ok g43O_ok

theorem squareFO_ex : ∃ f : (Nat → Int) → (Nat → Int), f = squareF := ⟨_, rfl⟩
/-- squareF, by a name that is not unfolded. -/
noncomputable def squareFO : (Nat → Int) → (Nat → Int) := Classical.choose squareFO_ex
theorem squareFO_eq : squareFO = squareF := Classical.choose_spec squareFO_ex
noncomputable def g45O : List V → Option (Bool × V) := fun | [.ints .u64 5 x] => some (true, (V.ints .u64 5 (squareFO x))) | _ => none
theorem g45O_ok (vs : List V) (v : V) (h : g45O vs = some (true, v)) : (∀ μ μ', v.den μ' = v.den μ) ∧ ∀ μ w, PureAt Try.prog 45 (vs.map (V.den μ)).toArray (v.den μ) w := by
  unfold g45O at h
  split at h
  · simp only [Option.some.injEq, Prod.mk.injEq, true_and] at h
    subst h
    rw [squareFO_eq]
    exact squareF_p _
  · simp at h
noncomputable def o45O : Orc := ext 45 g45O o43O
theorem o45O_ok : OrcOK Try.prog o45O := ext_ok o43O_ok g45O_ok

theorem selectFO_ex : ∃ f : Bool → (Nat → Int) → (Nat → Int) → (Nat → Int), f = selectF := ⟨_, rfl⟩
/-- selectF, by a name that is not unfolded. -/
noncomputable def selectFO : Bool → (Nat → Int) → (Nat → Int) → (Nat → Int) := Classical.choose selectFO_ex
theorem selectFO_eq : selectFO = selectF := Classical.choose_spec selectFO_ex
noncomputable def g28O : List V → Option (Bool × V) := fun | [.bool c, .ints .u64 5 x, .ints .u64 5 y] => some (true, (V.ints .u64 5 (selectFO c x y))) | _ => none
theorem g28O_ok (vs : List V) (v : V) (h : g28O vs = some (true, v)) : (∀ μ μ', v.den μ' = v.den μ) ∧ ∀ μ w, PureAt Try.prog 28 (vs.map (V.den μ)).toArray (v.den μ) w := by
  unfold g28O at h
  split at h
  · simp only [Option.some.injEq, Prod.mk.injEq, true_and] at h
    subst h
    rw [selectFO_eq]
    exact selectF_p _ _ _
  · simp at h
noncomputable def o28O : Orc := ext 28 g28O o45O
theorem o28O_ok : OrcOK Try.prog o28O := ext_ok o45O_ok g28O_ok

theorem isZeroFO_ex : ∃ f : (Nat → Int) → Bool, f = isZeroF := ⟨_, rfl⟩
/-- isZeroF, by a name that is not unfolded. -/
noncomputable def isZeroFO : (Nat → Int) → Bool := Classical.choose isZeroFO_ex
theorem isZeroFO_eq : isZeroFO = isZeroF := Classical.choose_spec isZeroFO_ex
noncomputable def g23O : List V → Option (Bool × V) := fun | [.ints .u64 5 x] => some (true, (V.bool (isZeroFO x))) | _ => none
theorem g23O_ok (vs : List V) (v : V) (h : g23O vs = some (true, v)) : (∀ μ μ', v.den μ' = v.den μ) ∧ ∀ μ w, PureAt Try.prog 23 (vs.map (V.den μ)).toArray (v.den μ) w := by
  unfold g23O at h
  split at h
  · simp only [Option.some.injEq, Prod.mk.injEq, true_and] at h
    subst h
    rw [isZeroFO_eq]
    exact isZeroF_p _
  · simp at h
noncomputable def o23O : Orc := ext 23 g23O o28O
theorem o23O_ok : OrcOK Try.prog o23O := ext_ok o28O_ok g23O_ok

theorem isOddFO_ex : ∃ f : (Nat → Int) → Bool, f = isOddF := ⟨_, rfl⟩
/-- isOddF, by a name that is not unfolded. -/
noncomputable def isOddFO : (Nat → Int) → Bool := Classical.choose isOddFO_ex
theorem isOddFO_eq : isOddFO = isOddF := Classical.choose_spec isOddFO_ex
noncomputable def g25O : List V → Option (Bool × V) := fun | [.ints .u64 5 x] => some (true, (V.bool (isOddFO x))) | _ => none
theorem g25O_ok (vs : List V) (v : V) (h : g25O vs = some (true, v)) : (∀ μ μ', v.den μ' = v.den μ) ∧ ∀ μ w, PureAt Try.prog 25 (vs.map (V.den μ)).toArray (v.den μ) w := by
  unfold g25O at h
  split at h
  · simp only [Option.some.injEq, Prod.mk.injEq, true_and] at h
    subst h
    rw [isOddFO_eq]
    exact isOddF_p _
  · simp at h
noncomputable def o25O : Orc := ext 25 g25O o23O
theorem o25O_ok : OrcOK Try.prog o25O := ext_ok o23O_ok g25O_ok

theorem equalFO_ex : ∃ f : (Nat → Int) → (Nat → Int) → Bool, f = equalF := ⟨_, rfl⟩
/-- equalF, by a name that is not unfolded. -/
noncomputable def equalFO : (Nat → Int) → (Nat → Int) → Bool := Classical.choose equalFO_ex
theorem equalFO_eq : equalFO = equalF := Classical.choose_spec equalFO_ex
noncomputable def g22O : List V → Option (Bool × V) := fun | [.ints .u64 5 x, .ints .u64 5 y] => some (true, (V.bool (equalFO x y))) | _ => none
theorem g22O_ok (vs : List V) (v : V) (h : g22O vs = some (true, v)) : (∀ μ μ', v.den μ' = v.den μ) ∧ ∀ μ w, PureAt Try.prog 22 (vs.map (V.den μ)).toArray (v.den μ) w := by
  unfold g22O at h
  split at h
  · simp only [Option.some.injEq, Prod.mk.injEq, true_and] at h
    subst h
    rw [equalFO_eq]
    exact equalF_p _ _
  · simp at h
noncomputable def o22O : Orc := ext 22 g22O o25O
theorem o22O_ok : OrcOK Try.prog o22O := ext_ok o25O_ok g22O_ok
end Go.Proofs.Ytbnclikjbnfodaa

namespace Go.Proofs.Ytbnclikjbnfodaa
open Go.Ev
/- fareboxlaw05.counts -/
noncomputable def countsB : Bool := (cond (!(eqN 5 (addFO (smallFO 2) (smallFO 3)) (L [5, 0, 0, 0, 0]))) false (cond (!(eqN 5 (mulFO (smallFO 2) (smallFO 3)) (L [6, 0, 0, 0, 0]))) false (cond (eqN 5 (smallFO 1) (L [1, 0, 0, 0, 0])) (cond (isZeroFO (smallFO 0)) (!(isZeroFO (smallFO 3))) false) false)))
theorem countsB_t : awp Try.prog o22O noG 300 (body Try.f50) (ends Try.prog Try.f50 fun v _ => okV (V.bool countsB) v) ⟨[] ++ List.replicate 29 V.un, []⟩ = (mB (!(eqN 5 (addFO (smallFO 2) (smallFO 3)) (L [5, 0, 0, 0, 0]))) ((V.bool false).den z0 = (V.bool countsB).den z0) (mB (!(eqN 5 (mulFO (smallFO 2) (smallFO 3)) (L [6, 0, 0, 0, 0]))) ((V.bool false).den z0 = (V.bool countsB).den z0) (mB (eqN 5 (smallFO 1) (L [1, 0, 0, 0, 0])) (mB (isZeroFO (smallFO 0)) ((V.bool (!(isZeroFO (smallFO 3)))).den z0 = (V.bool countsB).den z0) ((V.bool false).den z0 = (V.bool countsB).den z0)) ((V.bool false).den z0 = (V.bool countsB).den z0)))) := by kernel_rfl
theorem countsB_a : awp Try.prog o22O noG 300 (body Try.f50) (ends Try.prog Try.f50 fun v _ => okV (V.bool countsB) v) ⟨[] ++ List.replicate 29 V.un, []⟩ := by
  rw [countsB_t]
  refine mBt (fun h1 => ?_) (fun h1 => ?_)
  · simp only [countsB, h1, cond_true]
  · refine mBt (fun h2 => ?_) (fun h2 => ?_)
    · simp only [countsB, h1, h2, cond_true, cond_false]
    · refine mBt (fun h3 => ?_) (fun h3 => ?_)
      · refine mBt (fun h4 => ?_) (fun h4 => ?_)
        · simp only [countsB, h1, h2, h3, h4, cond_true, cond_false]
        · simp only [countsB, h1, h2, h3, h4, cond_true, cond_false]
      · simp only [countsB, h1, h2, h3, cond_false]
noncomputable def g50 : List V → Option (Bool × V) := fun | [] => some (true, (V.bool countsB)) | _ => none
theorem countsB_p : (∀ μ μ', V.den μ' (V.bool countsB) = V.den μ (V.bool countsB)) ∧ ∀ μ w, PureAt Try.prog 50 (([] : List V).map (V.den μ)).toArray (V.den μ (V.bool countsB)) w :=
  pure_ok (F := o22O) (N := 300) (fn := Try.f50) (args := []) (r := (V.bool countsB)) (n := 29) hM o22O_ok (noG_ok _) Try.func50 (by kernel_rfl) (by kernel_rfl) (by kernel_rfl) (by kernel_rfl) (countsB_a) (by kernel_rfl)
theorem g50_ok (vs : List V) (v : V) (h : g50 vs = some (true, v)) : (∀ μ μ', v.den μ' = v.den μ) ∧ ∀ μ w, PureAt Try.prog 50 (vs.map (V.den μ)).toArray (v.den μ) w := by
  unfold g50 at h
  split at h
  · simp only [Option.some.injEq, Prod.mk.injEq, true_and] at h
    subst h
    exact countsB_p
  · simp at h
noncomputable def o50 : Orc := ext 50 g50 o22O
theorem o50_ok : OrcOK Try.prog o50 := ext_ok o22O_ok g50_ok

/- fareboxlaw05.FieldRing -/
noncomputable def lawRing (x : (Nat → Int)) (y : (Nat → Int)) (z : (Nat → Int)) : Bool := (cond (!(eqN 5 (addFO x y) (addFO y x))) false (cond (!(eqN 5 (mulFO x y) (mulFO y x))) false (cond (!(eqN 5 (addFO (addFO x y) z) (addFO x (addFO y z)))) false (cond (!(eqN 5 (mulFO (mulFO x y) z) (mulFO x (mulFO y z)))) false (cond (!(eqN 5 (mulFO x (addFO y z)) (addFO (mulFO x y) (mulFO x z)))) false (cond (!(eqN 5 (addFO x (smallFO 0)) (selectFO true x y))) false (cond (!(eqN 5 (mulFO x (smallFO 1)) (selectFO true x y))) false (cond (!(eqN 5 (mulFO x (smallFO 0)) (smallFO 0))) false (cond (!(eqN 5 (addFO x (negFO x)) (smallFO 0))) false (cond (eqN 5 (subFO x y) (addFO x (negFO y))) (cond (eqN 5 (squareFO x) (mulFO x x)) (cond (eqN 5 (negFO (negFO x)) (selectFO true x y)) countsB false) false) false))))))))))
theorem lawRing_t (x : (Nat → Int)) (y : (Nat → Int)) (z : (Nat → Int)) : awp Try.prog o50 noG 300 (body Try.f8) (ends Try.prog Try.f8 fun v _ => okV (V.bool (lawRing x y z)) v) ⟨[(V.ints .u64 5 x), (V.ints .u64 5 y), (V.ints .u64 5 z)] ++ List.replicate 118 V.un, []⟩ = (mB (!(eqN 5 (addFO x y) (addFO y x))) ((V.bool false).den z0 = (V.bool (lawRing x y z)).den z0) (mB (!(eqN 5 (mulFO x y) (mulFO y x))) ((V.bool false).den z0 = (V.bool (lawRing x y z)).den z0) (mB (!(eqN 5 (addFO (addFO x y) z) (addFO x (addFO y z)))) ((V.bool false).den z0 = (V.bool (lawRing x y z)).den z0) (mB (!(eqN 5 (mulFO (mulFO x y) z) (mulFO x (mulFO y z)))) ((V.bool false).den z0 = (V.bool (lawRing x y z)).den z0) (mB (!(eqN 5 (mulFO x (addFO y z)) (addFO (mulFO x y) (mulFO x z)))) ((V.bool false).den z0 = (V.bool (lawRing x y z)).den z0) (mB (!(eqN 5 (addFO x (smallFO 0)) (selectFO true x y))) ((V.bool false).den z0 = (V.bool (lawRing x y z)).den z0) (mB (!(eqN 5 (mulFO x (smallFO 1)) (selectFO true x y))) ((V.bool false).den z0 = (V.bool (lawRing x y z)).den z0) (mB (!(eqN 5 (mulFO x (smallFO 0)) (smallFO 0))) ((V.bool false).den z0 = (V.bool (lawRing x y z)).den z0) (mB (!(eqN 5 (addFO x (negFO x)) (smallFO 0))) ((V.bool false).den z0 = (V.bool (lawRing x y z)).den z0) (mB (eqN 5 (subFO x y) (addFO x (negFO y))) (mB (eqN 5 (squareFO x) (mulFO x x)) (mB (eqN 5 (negFO (negFO x)) (selectFO true x y)) ((V.bool countsB).den z0 = (V.bool (lawRing x y z)).den z0) ((V.bool false).den z0 = (V.bool (lawRing x y z)).den z0)) ((V.bool false).den z0 = (V.bool (lawRing x y z)).den z0)) ((V.bool false).den z0 = (V.bool (lawRing x y z)).den z0))))))))))) := by kernel_rfl
theorem lawRing_a (x : (Nat → Int)) (y : (Nat → Int)) (z : (Nat → Int)) : awp Try.prog o50 noG 300 (body Try.f8) (ends Try.prog Try.f8 fun v _ => okV (V.bool (lawRing x y z)) v) ⟨[(V.ints .u64 5 x), (V.ints .u64 5 y), (V.ints .u64 5 z)] ++ List.replicate 118 V.un, []⟩ := by
  rw [lawRing_t]
  refine mBt (fun h1 => ?_) (fun h1 => ?_)
  · simp only [lawRing, h1, cond_true]
  · refine mBt (fun h2 => ?_) (fun h2 => ?_)
    · simp only [lawRing, h1, h2, cond_true, cond_false]
    · refine mBt (fun h3 => ?_) (fun h3 => ?_)
      · simp only [lawRing, h1, h2, h3, cond_true, cond_false]
      · refine mBt (fun h4 => ?_) (fun h4 => ?_)
        · simp only [lawRing, h1, h2, h3, h4, cond_true, cond_false]
        · refine mBt (fun h5 => ?_) (fun h5 => ?_)
          · simp only [lawRing, h1, h2, h3, h4, h5, cond_true, cond_false]
          · refine mBt (fun h6 => ?_) (fun h6 => ?_)
            · simp only [lawRing, h1, h2, h3, h4, h5, h6, cond_true, cond_false]
            · refine mBt (fun h7 => ?_) (fun h7 => ?_)
              · simp only [lawRing, h1, h2, h3, h4, h5, h6, h7, cond_true, cond_false]
              · refine mBt (fun h8 => ?_) (fun h8 => ?_)
                · simp only [lawRing, h1, h2, h3, h4, h5, h6, h7, h8, cond_true, cond_false]
                · refine mBt (fun h9 => ?_) (fun h9 => ?_)
                  · simp only [lawRing, h1, h2, h3, h4, h5, h6, h7, h8, h9, cond_true, cond_false]
                  · refine mBt (fun h10 => ?_) (fun h10 => ?_)
                    · refine mBt (fun h11 => ?_) (fun h11 => ?_)
                      · refine mBt (fun h12 => ?_) (fun h12 => ?_)
                        · simp only [lawRing, h1, h2, h3, h4, h5, h6, h7, h8, h9, h10, h11, h12, cond_true, cond_false]
                        · simp only [lawRing, h1, h2, h3, h4, h5, h6, h7, h8, h9, h10, h11, h12, cond_true, cond_false]
                      · simp only [lawRing, h1, h2, h3, h4, h5, h6, h7, h8, h9, h10, h11, cond_true, cond_false]
                    · simp only [lawRing, h1, h2, h3, h4, h5, h6, h7, h8, h9, h10, cond_false]
noncomputable def g8 : List V → Option (Bool × V) := fun | [.ints .u64 5 x, .ints .u64 5 y, .ints .u64 5 z] => some (true, (V.bool (lawRing x y z))) | _ => none
theorem lawRing_p (x : (Nat → Int)) (y : (Nat → Int)) (z : (Nat → Int)) : (∀ μ μ', V.den μ' (V.bool (lawRing x y z)) = V.den μ (V.bool (lawRing x y z))) ∧ ∀ μ w, PureAt Try.prog 8 (([(V.ints .u64 5 x), (V.ints .u64 5 y), (V.ints .u64 5 z)] : List V).map (V.den μ)).toArray (V.den μ (V.bool (lawRing x y z))) w :=
  pure_ok (F := o50) (N := 300) (fn := Try.f8) (args := [(V.ints .u64 5 x), (V.ints .u64 5 y), (V.ints .u64 5 z)]) (r := (V.bool (lawRing x y z))) (n := 118) hM o50_ok (noG_ok _) Try.func8 (by kernel_rfl) (by kernel_rfl) (by kernel_rfl) (by kernel_rfl) (lawRing_a x y z) (by kernel_rfl)
theorem g8_ok (vs : List V) (v : V) (h : g8 vs = some (true, v)) : (∀ μ μ', v.den μ' = v.den μ) ∧ ∀ μ w, PureAt Try.prog 8 (vs.map (V.den μ)).toArray (v.den μ) w := by
  unfold g8 at h
  split at h
  · simp only [Option.some.injEq, Prod.mk.injEq, true_and] at h
    subst h
    exact lawRing_p _ _ _
  · simp at h
noncomputable def o8 : Orc := ext 8 g8 o50
theorem o8_ok : OrcOK Try.prog o8 := ext_ok o50_ok g8_ok
end Go.Proofs.Ytbnclikjbnfodaa

/-
  Sums and products modulo p; answers that mean the same are the same. Conditions: none.
-/
namespace Go.Proofs.Ytbnclikjbnfodaa
open Go.Ev Go.Num

theorem ml (a b : Int) : (a % p * b) % p = (a * b) % p := by rw [Int.mul_emod, Int.emod_emod_of_dvd _ (Int.dvd_refl p), ← Int.mul_emod]
theorem mr (a b : Int) : (a * (b % p)) % p = (a * b) % p := by rw [Int.mul_emod, Int.emod_emod_of_dvd _ (Int.dvd_refl p), ← Int.mul_emod]
theorem al (a b : Int) : (a % p + b) % p = (a + b) % p := Int.emod_add_emod _ _ _
theorem ar (a b : Int) : (a + b % p) % p = (a + b) % p := Int.add_emod_emod _ _ _
theorem sl (a b : Int) : (a % p - b) % p = (a - b) % p := Int.emod_sub_emod _ _ _
theorem sr (a b : Int) : (a - b % p) % p = (a - b) % p := Int.sub_emod_emod _ _ _
theorem me (a : Int) : (a % p) % p = a % p := Int.emod_emod_of_dvd _ (Int.dvd_refl p)
theorem nm (a : Int) : (-(a % p)) % p = (-a) % p := neg_mod a

/-- Reduced limbs that mean X. -/
def Is (x : Nat → Int) (X : Int) : Prop := v5 x = X % p ∧ R5 x
theorem Is.u {x : Nat → Int} {X : Int} (h : Is x X) : U5 x := h.2.u
theorem Is.v {x : Nat → Int} {X : Int} (h : Is x X) : v5 x % p = X % p := by rw [h.1, me]
theorem Is.to {x : Nat → Int} {X Y : Int} (h : Is x X) (e : X % p = Y % p) : Is x Y := ⟨by rw [h.1, e], h.2⟩
theorem Is.eqn {x y : Nat → Int} {X Y : Int} (hx : Is x X) (hy : Is y Y) : eqN 5 x y = decide (X % p = Y % p) := by rw [eq5 hx.2 hy.2, hx.1, hy.1]
theorem Is.same {x y : Nat → Int} {X Y : Int} (hx : Is x X) (hy : Is y Y) (e : X = Y) : eqN 5 x y = true := by subst e; rw [hx.eqn hy]; exact decide_eq_true rfl

theorem small_i (n : Int) (h0 : 0 ≤ n) (h1 : n < 18446744073709551616) : Is (smallF n) n := by
  obtain ⟨s1, s2⟩ := small_v h0 h1
  exact ⟨by rw [s1]; exact (Int.emod_eq_of_lt h0 (by unfold p; omega)).symm, s2⟩
theorem reduce_i {x : Nat → Int} (h : U5 x) : Is (reduceF x) (v5 x) := reduce_v h
theorem select_i {x y : Nat → Int} (h : U5 x) : Is (selectF true x y) (v5 x) := reduce_v h
theorem select_i' {x y : Nat → Int} (h : U5 y) : Is (selectF false x y) (v5 y) := reduce_v h
theorem add_i {x y : Nat → Int} (hx : U5 x) (hy : U5 y) : Is (addF x y) (v5 x + v5 y) := add_v hx hy
theorem sub_i {x y : Nat → Int} (hx : U5 x) (hy : U5 y) : Is (subF x y) (v5 x - v5 y) := sub_v hx hy
theorem neg_i {x : Nat → Int} (hx : U5 x) : Is (negF x) (-v5 x) := neg_v hx
theorem mul_i {x y : Nat → Int} (hx : U5 x) (hy : U5 y) : Is (mulF x y) (v5 x * v5 y) := mul_v hx hy
theorem sq_i {x : Nat → Int} (hx : U5 x) : Is (squareF x) (v5 x * v5 x) := mul_v hx hx

/-! Of numbers that are known: -/
theorem addK {x y : Nat → Int} {X Y : Int} (hx : Is x X) (hy : Is y Y) : Is (addF x y) (X + Y) := (add_i hx.u hy.u).to (by rw [hx.1, hy.1, al, ar])
theorem subK {x y : Nat → Int} {X Y : Int} (hx : Is x X) (hy : Is y Y) : Is (subF x y) (X - Y) := (sub_i hx.u hy.u).to (by rw [hx.1, hy.1, sl, sr])
theorem negK {x : Nat → Int} {X : Int} (hx : Is x X) : Is (negF x) (-X) := (neg_i hx.u).to (by rw [hx.1, nm])
theorem mulK {x y : Nat → Int} {X Y : Int} (hx : Is x X) (hy : Is y Y) : Is (mulF x y) (X * Y) := (mul_i hx.u hy.u).to (by rw [hx.1, hy.1, ml, mr])
theorem sqK {x : Nat → Int} {X : Int} (hx : Is x X) : Is (squareF x) (X * X) := mulK hx hx
end Go.Proofs.Ytbnclikjbnfodaa

/-
  FieldRing answers true, of any limbs that uint64 holds. Conditions: none.
-/
namespace Go.Proofs.Ytbnclikjbnfodaa
open Go.Ev Go.Num

theorem counts_true : countsB = true := by
  unfold countsB
  rw [addFO_eq, mulFO_eq, smallFO_eq, isZeroFO_eq]
  kernel_rfl

theorem ring_true {x y z : Nat → Int} (hx : U5 x) (hy : U5 y) (hz : U5 z) : lawRing x y z = true := by
  have i0 := small_i 0 (by omega) (by omega)
  have i1 := small_i 1 (by omega) (by omega)
  have s := select_i (y := y) hx
  have xy := mul_i hx hy
  have e1 := (add_i hx hy).same (add_i hy hx) (by omega)
  have e2 := xy.same (mul_i hy hx) (by grind)
  have e3 := ((add_i (add_i hx hy).u hz).to (Y := v5 x + v5 y + v5 z) (by rw [(add_i hx hy).1, al])).same ((add_i hx (add_i hy hz).u).to (Y := v5 x + (v5 y + v5 z)) (by rw [(add_i hy hz).1, ar])) (by omega)
  have e4 := ((mul_i xy.u hz).to (Y := v5 x * v5 y * v5 z) (by rw [xy.1, ml])).same ((mul_i hx (mul_i hy hz).u).to (Y := v5 x * (v5 y * v5 z)) (by rw [(mul_i hy hz).1, mr])) (by grind)
  have e5 := ((mul_i hx (add_i hy hz).u).to (Y := v5 x * (v5 y + v5 z)) (by rw [(add_i hy hz).1, mr])).same (addK xy (mul_i hx hz)) (by grind)
  have e6 := ((add_i hx i0.u).to (Y := v5 x + 0) (by rw [i0.1, ar])).same s (by omega)
  have e7 := ((mul_i hx i1.u).to (Y := v5 x * 1) (by rw [i1.1, mr])).same s (by omega)
  have e8 := ((mul_i hx i0.u).to (Y := v5 x * 0) (by rw [i0.1, mr])).same i0 (by omega)
  have e9 := ((add_i hx (neg_i hx).u).to (Y := v5 x + -v5 x) (by rw [(neg_i hx).1, ar])).same i0 (by omega)
  have e10 := (sub_i hx hy).same ((add_i hx (neg_i hy).u).to (Y := v5 x + -v5 y) (by rw [(neg_i hy).1, ar])) (by omega)
  have e11 := (sq_i hx).same (mul_i hx hx) rfl
  have e12 := (negK (neg_i hx)).same s (by omega)
  unfold lawRing
  rw [addFO_eq, mulFO_eq, smallFO_eq, selectFO_eq, negFO_eq, subFO_eq, squareFO_eq, e1, e2, e3, e4, e5, e6, e7, e8, e9, e10, e11, e12, counts_true]
  rfl

end Go.Proofs.Ytbnclikjbnfodaa
