import Derived.Test.YtbnclikjbnfodaaWProducts
import Derived.Test.YtbnclikjbnfodaaMA
import Derived.Test.YtbnclikjbnfodaaRows
namespace Go.Proofs.Ytbnclikjbnfodaa
open Go.Ev
theorem powF_h (x : (Nat → Int)) (e : (Nat → Int)) (N : Nat) (K : V → List V → Prop) : awp Try.prog o45 noG N (body Try.f46) (ends Try.prog Try.f46 K) ⟨[(V.ints .u64 5 x), (V.ints .u8 32 e)] ++ List.replicate 25 V.un, []⟩ = lp (awp Try.prog o45 noG N (loopOf (body Try.f46))) (spineQ Try.prog o45 noG N (body Try.f46) (ends Try.prog Try.f46 K)) N ⟨[(V.ints .u64 5 x), (V.ints .u8 32 e), (V.ptr 0 0), (V.ptr 1 0), (V.ptr 2 0), (V.ptr 3 0), (V.int .i64 255), (V.ints .u64 5 (smallF 1)), V.un, V.un, V.un, V.un, V.un, V.un, V.un, V.un, V.un, V.un, V.un, V.un, V.un, V.un, V.un, V.un, V.un, V.un, V.un], [(V.ints .u64 5 x), (V.ints .u8 32 e), (V.ints .u64 5 (fun _ => 0)), (V.ints .u64 5 (smallF 1))]⟩ := by kernel_rfl
theorem powF_s (x : (Nat → Int)) (e : (Nat → Int)) (a : Nat → Int) (i : Int) (t8 t9 t10 t11 t12 t13 t14 t15 t16 t17 t18 t19 t20 t21 t22 t23 t24 t25 : V) (Q : Exit → St → Prop) (n : Nat) : lp (awp Try.prog o45 noG 300 (loopOf (body Try.f46))) Q (n + 1) ⟨[(V.ints .u64 5 x), (V.ints .u8 32 e), (V.ptr 0 0), (V.ptr 1 0), (V.ptr 2 0), (V.ptr 3 0), (V.int .i64 i), (V.ints .u64 5 (smallF 1)), t8, t9, t10, t11, t12, t13, t14, t15, t16, t17, t18, t19, t20, t21, t22, t23, t24, t25, V.un], [(V.ints .u64 5 x), (V.ints .u8 32 e), (V.ints .u64 5 (fun _ => 0)), (V.ints .u64 5 a)]⟩ = (mB (decide (i ≥ 0)) (gB (decide (0 ≤ (quoI .i64 i 8) ∧ (quoI .i64 i 8) < 32)) (gB (Nat.blt (0 + (Int.toNat (quoI .i64 i 8) * 1)) 32) (gB (decide (0 ≤ (remI i 8))) (mB ((andI .u8 (shrI .u8 (e (0 + (Int.toNat (quoI .i64 i 8) * 1))) (remI i 8)) 1) == 1) (lp (awp Try.prog o45 noG 300 (loopOf (body Try.f46))) Q n ⟨[(V.ints .u64 5 x), (V.ints .u8 32 e), (V.ptr 0 0), (V.ptr 1 0), (V.ptr 2 0), (V.ptr 3 0), (V.int .i64 (subI .i64 i 1)), (V.ints .u64 5 (smallF 1)), (V.int .i64 i), (V.bool (decide (i ≥ 0))), (V.int .i64 i), (V.int .i64 (subI .i64 i 1)), (V.ints .u64 5 a), (V.ints .u64 5 (squareF a)), (V.int .i64 i), (V.int .i64 (quoI .i64 i 8)), (V.ptr 1 (0 + (Int.toNat (quoI .i64 i 8) * 1))), (V.int .u8 (e (0 + (Int.toNat (quoI .i64 i 8) * 1)))), (V.int .i64 i), (V.int .i64 (remI i 8)), (V.int .u8 (shrI .u8 (e (0 + (Int.toNat (quoI .i64 i 8) * 1))) (remI i 8))), (V.int .u8 (andI .u8 (shrI .u8 (e (0 + (Int.toNat (quoI .i64 i 8) * 1))) (remI i 8)) 1)), (V.bool ((andI .u8 (shrI .u8 (e (0 + (Int.toNat (quoI .i64 i 8) * 1))) (remI i 8)) 1) == 1)), (V.ints .u64 5 (squareF a)), (V.ints .u64 5 x), (V.ints .u64 5 (mulF (squareF a) x)), V.un], [(V.ints .u64 5 x), (V.ints .u8 32 e), (V.ints .u64 5 (fun _ => 0)), (V.ints .u64 5 (mulF (squareF a) x))]⟩) (lp (awp Try.prog o45 noG 300 (loopOf (body Try.f46))) Q n ⟨[(V.ints .u64 5 x), (V.ints .u8 32 e), (V.ptr 0 0), (V.ptr 1 0), (V.ptr 2 0), (V.ptr 3 0), (V.int .i64 (subI .i64 i 1)), (V.ints .u64 5 (smallF 1)), (V.int .i64 i), (V.bool (decide (i ≥ 0))), (V.int .i64 i), (V.int .i64 (subI .i64 i 1)), (V.ints .u64 5 a), (V.ints .u64 5 (squareF a)), (V.int .i64 i), (V.int .i64 (quoI .i64 i 8)), (V.ptr 1 (0 + (Int.toNat (quoI .i64 i 8) * 1))), (V.int .u8 (e (0 + (Int.toNat (quoI .i64 i 8) * 1)))), (V.int .i64 i), (V.int .i64 (remI i 8)), (V.int .u8 (shrI .u8 (e (0 + (Int.toNat (quoI .i64 i 8) * 1))) (remI i 8))), (V.int .u8 (andI .u8 (shrI .u8 (e (0 + (Int.toNat (quoI .i64 i 8) * 1))) (remI i 8)) 1)), (V.bool ((andI .u8 (shrI .u8 (e (0 + (Int.toNat (quoI .i64 i 8) * 1))) (remI i 8)) 1) == 1)), t23, t24, t25, V.un], [(V.ints .u64 5 x), (V.ints .u8 32 e), (V.ints .u64 5 (fun _ => 0)), (V.ints .u64 5 (squareF a))]⟩))))) (Q (.exit 0) ⟨[(V.ints .u64 5 x), (V.ints .u8 32 e), (V.ptr 0 0), (V.ptr 1 0), (V.ptr 2 0), (V.ptr 3 0), (V.int .i64 i), (V.ints .u64 5 (smallF 1)), (V.int .i64 i), (V.bool (decide (i ≥ 0))), t10, t11, t12, t13, t14, t15, t16, t17, t18, t19, t20, t21, t22, t23, t24, t25, V.un], [(V.ints .u64 5 x), (V.ints .u8 32 e), (V.ints .u64 5 (fun _ => 0)), (V.ints .u64 5 a)]⟩)) := by kernel_rfl
theorem powF_x (x : (Nat → Int)) (e : (Nat → Int)) (a : Nat → Int) (i : Int) (t8 t9 t10 t11 t12 t13 t14 t15 t16 t17 t18 t19 t20 t21 t22 t23 t24 t25 : V) (R : V) : spineQ Try.prog o45 noG 300 (body Try.f46) (ends Try.prog Try.f46 fun v _ => okV R v) (.exit 0) ⟨[(V.ints .u64 5 x), (V.ints .u8 32 e), (V.ptr 0 0), (V.ptr 1 0), (V.ptr 2 0), (V.ptr 3 0), (V.int .i64 i), (V.ints .u64 5 (smallF 1)), t8, t9, t10, t11, t12, t13, t14, t15, t16, t17, t18, t19, t20, t21, t22, t23, t24, t25, V.un], [(V.ints .u64 5 x), (V.ints .u8 32 e), (V.ints .u64 5 (fun _ => 0)), (V.ints .u64 5 a)]⟩ = (okV R (V.ints .u64 5 a)) := by kernel_rfl

/-- The content behind one round more. -/
def powF_st (x : (Nat → Int)) (e : (Nat → Int)) (i : Int) (a : Nat → Int) : Nat → Int := (cond ((andI .u8 (shrI .u8 (e (0 + (Int.toNat (quoI .i64 i 8) * 1))) (remI i 8)) 1) == 1) (mulF (squareF a) x) (squareF a))
def powF_it (x : (Nat → Int)) (e : (Nat → Int)) : Nat → (Nat → Int)
  | 0 => (smallF 1)
  | k + 1 => powF_st x e ((256 - 1 - k : Nat) : Int) (powF_it x e k)
theorem powF_l (x : (Nat → Int)) (e : (Nat → Int)) (Q : Exit → St → Prop) (hQ : ∀ (t8 t9 t10 t11 t12 t13 t14 t15 t16 t17 t18 t19 t20 t21 t22 t23 t24 t25 : V), Q (.exit 0) ⟨[(V.ints .u64 5 x), (V.ints .u8 32 e), (V.ptr 0 0), (V.ptr 1 0), (V.ptr 2 0), (V.ptr 3 0), (V.int .i64 (((256 : Nat) : Int) - 1 - ((256 : Nat) : Int))), (V.ints .u64 5 (smallF 1)), t8, t9, t10, t11, t12, t13, t14, t15, t16, t17, t18, t19, t20, t21, t22, t23, t24, t25, V.un], [(V.ints .u64 5 x), (V.ints .u8 32 e), (V.ints .u64 5 (fun _ => 0)), (V.ints .u64 5 (powF_it x e 256))]⟩) : ∀ (d k n : Nat), k + d = 256 → d + 1 ≤ n → ∀ (t8 t9 t10 t11 t12 t13 t14 t15 t16 t17 t18 t19 t20 t21 t22 t23 t24 t25 : V), lp (awp Try.prog o45 noG 300 (loopOf (body Try.f46))) Q n ⟨[(V.ints .u64 5 x), (V.ints .u8 32 e), (V.ptr 0 0), (V.ptr 1 0), (V.ptr 2 0), (V.ptr 3 0), (V.int .i64 (((256 : Nat) : Int) - 1 - (k : Int))), (V.ints .u64 5 (smallF 1)), t8, t9, t10, t11, t12, t13, t14, t15, t16, t17, t18, t19, t20, t21, t22, t23, t24, t25, V.un], [(V.ints .u64 5 x), (V.ints .u8 32 e), (V.ints .u64 5 (fun _ => 0)), (V.ints .u64 5 (powF_it x e k))]⟩
  | 0, k, n, hk, hn, t8, t9, t10, t11, t12, t13, t14, t15, t16, t17, t18, t19, t20, t21, t22, t23, t24, t25 => by
    obtain ⟨n, rfl⟩ : ∃ m, n = m + 1 := ⟨n - 1, by omega⟩
    obtain rfl : k = 256 := by omega
    rw [powF_s]
    refine mBt (fun h => absurd (of_decide_eq_true h) (by simp)) (fun _ => ?_)
    exact hQ _ _ _ _ _ _ _ _ _ _ _ _ _ _ _ _ _ _
  | d + 1, k, n, hk, hn, t8, t9, t10, t11, t12, t13, t14, t15, t16, t17, t18, t19, t20, t21, t22, t23, t24, t25 => by
    obtain ⟨n, rfl⟩ : ∃ m, n = m + 1 := ⟨n - 1, by omega⟩
    have hi : (0 : Int) ≤ (((256 : Nat) : Int) - 1 - (k : Int)) ∧ (((256 : Nat) : Int) - 1 - (k : Int)) < 256 := by omega
    have hix : (((256 : Nat) : Int) - 1 - (k : Int)) = ((256 - 1 - k : Nat) : Int) := by omega
    rw [hix] at hi ⊢
    have g0 : (decide (0 ≤ (quoI .i64 ((256 - 1 - k : Nat) : Int) 8) ∧ (quoI .i64 ((256 - 1 - k : Nat) : Int) 8) < 32)) = true := by first | (rw [show quoI .i64 ((256 - 1 - k : Nat) : Int) 8 = (((256 - 1 - k) / 8 : Nat) : Int) from quo_nat (256 - 1 - k) 8 (by omega)]; exact bltT.2 (by simp; omega)) | (rw [show quoI .i64 ((256 - 1 - k : Nat) : Int) 8 = (((256 - 1 - k) / 8 : Nat) : Int) from quo_nat (256 - 1 - k) 8 (by omega)]; simp; omega) | (rw [show remI ((256 - 1 - k : Nat) : Int) 8 = (((256 - 1 - k) % 8 : Nat) : Int) from rem_nat (256 - 1 - k) 8]; simp; omega)
    have g1 : (Nat.blt (0 + (Int.toNat (quoI .i64 ((256 - 1 - k : Nat) : Int) 8) * 1)) 32) = true := by first | (rw [show quoI .i64 ((256 - 1 - k : Nat) : Int) 8 = (((256 - 1 - k) / 8 : Nat) : Int) from quo_nat (256 - 1 - k) 8 (by omega)]; exact bltT.2 (by simp; omega)) | (rw [show quoI .i64 ((256 - 1 - k : Nat) : Int) 8 = (((256 - 1 - k) / 8 : Nat) : Int) from quo_nat (256 - 1 - k) 8 (by omega)]; simp; omega) | (rw [show remI ((256 - 1 - k : Nat) : Int) 8 = (((256 - 1 - k) % 8 : Nat) : Int) from rem_nat (256 - 1 - k) 8]; simp; omega)
    have g2 : (decide (0 ≤ (remI ((256 - 1 - k : Nat) : Int) 8))) = true := by first | (rw [show quoI .i64 ((256 - 1 - k : Nat) : Int) 8 = (((256 - 1 - k) / 8 : Nat) : Int) from quo_nat (256 - 1 - k) 8 (by omega)]; exact bltT.2 (by simp; omega)) | (rw [show quoI .i64 ((256 - 1 - k : Nat) : Int) 8 = (((256 - 1 - k) / 8 : Nat) : Int) from quo_nat (256 - 1 - k) 8 (by omega)]; simp; omega) | (rw [show remI ((256 - 1 - k : Nat) : Int) 8 = (((256 - 1 - k) % 8 : Nat) : Int) from rem_nat (256 - 1 - k) 8]; simp; omega)
    have hnx : (subI .i64 ((256 - 1 - k : Nat) : Int) 1) = (((256 : Nat) : Int) - 1 - ((k + 1 : Nat) : Int)) := by rw [sub1_nat _ (by omega)]; omega
    rw [powF_s]
    refine mBt (fun _ => ?_) (fun h => absurd hi.1 (of_decide_eq_false h))
    refine gm g0 ?_
    refine gm g1 ?_
    refine gm g2 ?_
    refine mBt (fun c0 => ?_) (fun c0 => ?_)
    · rw [hnx]
      have h := powF_l x e Q hQ d (k + 1) n (by omega) (by omega)
      simp only [powF_it, powF_st, c0, cond_true] at h
      exact h _ _ _ _ _ _ _ _ _ _ _ _ _ _ _ _ _ _
    · rw [hnx]
      have h := powF_l x e Q hQ d (k + 1) n (by omega) (by omega)
      simp only [powF_it, powF_st, c0, cond_false] at h
      exact h _ _ _ _ _ _ _ _ _ _ _ _ _ _ _ _ _ _

def powF (x e : Nat → Int) : Nat → Int := powF_it x e 256
theorem powF_a (x : (Nat → Int)) (e : (Nat → Int)) : awp Try.prog o45 noG 300 (body Try.f46) (ends Try.prog Try.f46 fun v _ => okV (V.ints .u64 5 (powF x e)) v) ⟨[(V.ints .u64 5 x), (V.ints .u8 32 e)] ++ List.replicate 25 V.un, []⟩ := by
  rw [powF_h]
  exact powF_l x e _ (fun _ _ _ _ _ _ _ _ _ _ _ _ _ _ _ _ _ _ => by rw [powF_x]; exact okV_refl rfl) 256 0 300 (by omega) (by omega) _ _ _ _ _ _ _ _ _ _ _ _ _ _ _ _ _ _

def g46 : List V → Option (Bool × V) := fun | [.ints .u64 5 x, .ints .u8 32 e] => some (true, (V.ints .u64 5 (powF x e))) | _ => none
theorem powF_p (x : (Nat → Int)) (e : (Nat → Int)) : (∀ μ μ', V.den μ' (V.ints .u64 5 (powF x e)) = V.den μ (V.ints .u64 5 (powF x e))) ∧ ∀ μ w, PureAt Try.prog 46 (([(V.ints .u64 5 x), (V.ints .u8 32 e)] : List V).map (V.den μ)).toArray (V.den μ (V.ints .u64 5 (powF x e))) w :=
  pure_ok (F := o45) (N := 300) (fn := Try.f46) (args := [(V.ints .u64 5 x), (V.ints .u8 32 e)]) (r := (V.ints .u64 5 (powF x e))) (n := 25) hM o45_ok (noG_ok _) Try.func46 (by kernel_rfl) (by kernel_rfl) (by kernel_rfl) (by kernel_rfl) (powF_a x e) (by kernel_rfl)
theorem g46_ok (vs : List V) (v : V) (h : g46 vs = some (true, v)) : (∀ μ μ', v.den μ' = v.den μ) ∧ ∀ μ w, PureAt Try.prog 46 (vs.map (V.den μ)).toArray (v.den μ) w := by
  unfold g46 at h
  split at h
  · simp only [Option.some.injEq, Prod.mk.injEq, true_and] at h
    subst h
    exact powF_p _ _
  · simp at h
def o46 : Orc := ext 46 g46 o45
theorem o46_ok : OrcOK Try.prog o46 := ext_ok o45_ok g46_ok
end Go.Proofs.Ytbnclikjbnfodaa
