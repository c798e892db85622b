import Derived.Test.YtbnclikjbnfodaaWI
import Derived.Test.YtbnclikjbnfodaaRows
namespace Go.Proofs.Ytbnclikjbnfodaa
open Go.Ev
theorem rBytes_h (a0 : (Nat → Int)) (N : Nat) (K : V → List V → Prop) : awp Try.prog o36 noG N (body Try.f40) (ends Try.prog Try.f40 K) ⟨[(V.ints .u64 10 a0)] ++ List.replicate 31 V.un, []⟩ = lp (awp Try.prog o36 noG N (loopOf (body Try.f40))) (spineQ Try.prog o36 noG N (body Try.f40) (ends Try.prog Try.f40 K)) N ⟨[(V.ints .u64 10 a0), (V.ptr 0 0), (V.ptr 1 0), (V.ptr 2 0), (V.int .i64 0), V.un, V.un, V.un, V.un, V.un, V.un, V.un, V.un, V.un, V.un, V.un, V.un, V.un, V.un, V.un, V.un, V.un, V.un, V.un, V.un, V.un, V.un, V.un, V.un, V.un, V.un, V.un], [(V.ints .u64 10 a0), (V.ints .u8 32 (fun _ => 0)), (V.ints .u8 32 (fun _ => 0))]⟩ := by kernel_rfl
theorem rBytes_s (a0 : (Nat → Int)) (a : Nat → Int) (i : Int) (t5 t6 t7 t8 t9 t10 t11 t12 t13 t14 t15 t16 t17 t18 t19 t20 t21 t22 t23 t24 t25 t26 t27 t28 t29 t30 : V) (Q : Exit → St → Prop) (n : Nat) : lp (awp Try.prog o36 noG 300 (loopOf (body Try.f40))) Q (n + 1) ⟨[(V.ints .u64 10 a0), (V.ptr 0 0), (V.ptr 1 0), (V.ptr 2 0), (V.int .i64 i), t5, t6, t7, t8, t9, t10, t11, t12, t13, t14, t15, t16, t17, t18, t19, t20, t21, t22, t23, t24, t25, t26, t27, t28, t29, t30, V.un], [(V.ints .u64 10 a0), (V.ints .u8 32 (fun _ => 0)), (V.ints .u8 32 a)]⟩ = (mB (decide (i < 255)) (gB (decide (0 ≤ (quoI .i64 i 26) ∧ (quoI .i64 i 26) < 10)) (gB (Nat.blt (0 + (Int.toNat (quoI .i64 i 26) * 1)) 10) (gB (decide (0 ≤ (remI i 26))) (gB (decide (0 ≤ (quoI .i64 i 8) ∧ (quoI .i64 i 8) < 32)) (gB (Nat.blt (0 + (Int.toNat (quoI .i64 i 8) * 1)) 32) (gB (decide (0 ≤ (remI i 8))) (gB (decide (0 ≤ (quoI .i64 i 8) ∧ (quoI .i64 i 8) < 32)) (gB (Nat.blt (0 + (Int.toNat (quoI .i64 i 8) * 1)) 32) (lp (awp Try.prog o36 noG 300 (loopOf (body Try.f40))) Q n ⟨[(V.ints .u64 10 a0), (V.ptr 0 0), (V.ptr 1 0), (V.ptr 2 0), (V.int .i64 (addI .i64 i 1)), (V.int .u8 (IntKind.wrap .u8 (andI .u64 (shrI .u64 (a0 (0 + (Int.toNat (quoI .i64 i 26) * 1))) (remI i 26)) 1))), (V.int .i64 i), (V.bool (decide (i < 255))), (V.int .i64 i), (V.int .i64 (addI .i64 i 1)), (V.int .i64 i), (V.int .i64 (quoI .i64 i 26)), (V.ptr 0 (0 + (Int.toNat (quoI .i64 i 26) * 1))), (V.int .u64 (a0 (0 + (Int.toNat (quoI .i64 i 26) * 1)))), (V.int .i64 i), (V.int .i64 (remI i 26)), (V.int .u64 (shrI .u64 (a0 (0 + (Int.toNat (quoI .i64 i 26) * 1))) (remI i 26))), (V.int .u64 (andI .u64 (shrI .u64 (a0 (0 + (Int.toNat (quoI .i64 i 26) * 1))) (remI i 26)) 1)), (V.int .u8 (IntKind.wrap .u8 (andI .u64 (shrI .u64 (a0 (0 + (Int.toNat (quoI .i64 i 26) * 1))) (remI i 26)) 1))), (V.int .i64 i), (V.int .i64 (quoI .i64 i 8)), (V.int .i64 i), (V.int .i64 (quoI .i64 i 8)), (V.ptr 2 (0 + (Int.toNat (quoI .i64 i 8) * 1))), (V.int .u8 (a (0 + (Int.toNat (quoI .i64 i 8) * 1)))), (V.int .u8 (IntKind.wrap .u8 (andI .u64 (shrI .u64 (a0 (0 + (Int.toNat (quoI .i64 i 26) * 1))) (remI i 26)) 1))), (V.int .i64 i), (V.int .i64 (remI i 8)), (V.int .u8 (shlI .u8 (IntKind.wrap .u8 (andI .u64 (shrI .u64 (a0 (0 + (Int.toNat (quoI .i64 i 26) * 1))) (remI i 26)) 1)) (remI i 8))), (V.int .u8 (addI .u8 (a (0 + (Int.toNat (quoI .i64 i 8) * 1))) (shlI .u8 (IntKind.wrap .u8 (andI .u64 (shrI .u64 (a0 (0 + (Int.toNat (quoI .i64 i 26) * 1))) (remI i 26)) 1)) (remI i 8)))), (V.ptr 2 (0 + (Int.toNat (quoI .i64 i 8) * 1))), V.un], [(V.ints .u64 10 a0), (V.ints .u8 32 (fun _ => 0)), (V.ints .u8 32 (up (0 + (Int.toNat (quoI .i64 i 8) * 1)) (addI .u8 (a (0 + (Int.toNat (quoI .i64 i 8) * 1))) (shlI .u8 (IntKind.wrap .u8 (andI .u64 (shrI .u64 (a0 (0 + (Int.toNat (quoI .i64 i 26) * 1))) (remI i 26)) 1)) (remI i 8))) a))]⟩))))))))) (Q (.exit 0) ⟨[(V.ints .u64 10 a0), (V.ptr 0 0), (V.ptr 1 0), (V.ptr 2 0), (V.int .i64 i), t5, (V.int .i64 i), (V.bool (decide (i < 255))), t8, t9, t10, t11, t12, t13, t14, t15, t16, t17, t18, t19, t20, t21, t22, t23, t24, t25, t26, t27, t28, t29, t30, V.un], [(V.ints .u64 10 a0), (V.ints .u8 32 (fun _ => 0)), (V.ints .u8 32 a)]⟩)) := by kernel_rfl
theorem rBytes_x (a0 : (Nat → Int)) (a : Nat → Int) (i : Int) (t5 t6 t7 t8 t9 t10 t11 t12 t13 t14 t15 t16 t17 t18 t19 t20 t21 t22 t23 t24 t25 t26 t27 t28 t29 t30 : V) (R : V) : spineQ Try.prog o36 noG 300 (body Try.f40) (ends Try.prog Try.f40 fun v _ => okV R v) (.exit 0) ⟨[(V.ints .u64 10 a0), (V.ptr 0 0), (V.ptr 1 0), (V.ptr 2 0), (V.int .i64 i), t5, t6, t7, t8, t9, t10, t11, t12, t13, t14, t15, t16, t17, t18, t19, t20, t21, t22, t23, t24, t25, t26, t27, t28, t29, t30, V.un], [(V.ints .u64 10 a0), (V.ints .u8 32 (fun _ => 0)), (V.ints .u8 32 a)]⟩ = (okV R (V.ints .u8 32 a)) := by kernel_rfl

/-- The content behind one round more. -/
def rBytes_st (a0 : (Nat → Int)) (i : Int) (a : Nat → Int) : Nat → Int := (up (0 + (Int.toNat (quoI .i64 i 8) * 1)) (addI .u8 (a (0 + (Int.toNat (quoI .i64 i 8) * 1))) (shlI .u8 (IntKind.wrap .u8 (andI .u64 (shrI .u64 (a0 (0 + (Int.toNat (quoI .i64 i 26) * 1))) (remI i 26)) 1)) (remI i 8))) a)
def rBytes_it (a0 : (Nat → Int)) : Nat → (Nat → Int)
  | 0 => (fun _ => 0)
  | k + 1 => rBytes_st a0 (k : Int) (rBytes_it a0 k)
theorem rBytes_l (a0 : (Nat → Int)) (Q : Exit → St → Prop) (hQ : ∀ (t5 t6 t7 t8 t9 t10 t11 t12 t13 t14 t15 t16 t17 t18 t19 t20 t21 t22 t23 t24 t25 t26 t27 t28 t29 t30 : V), Q (.exit 0) ⟨[(V.ints .u64 10 a0), (V.ptr 0 0), (V.ptr 1 0), (V.ptr 2 0), (V.int .i64 ((255 : Nat) : Int)), t5, t6, t7, t8, t9, t10, t11, t12, t13, t14, t15, t16, t17, t18, t19, t20, t21, t22, t23, t24, t25, t26, t27, t28, t29, t30, V.un], [(V.ints .u64 10 a0), (V.ints .u8 32 (fun _ => 0)), (V.ints .u8 32 (rBytes_it a0 255))]⟩) : ∀ (d k n : Nat), k + d = 255 → d + 1 ≤ n → ∀ (t5 t6 t7 t8 t9 t10 t11 t12 t13 t14 t15 t16 t17 t18 t19 t20 t21 t22 t23 t24 t25 t26 t27 t28 t29 t30 : V), lp (awp Try.prog o36 noG 300 (loopOf (body Try.f40))) Q n ⟨[(V.ints .u64 10 a0), (V.ptr 0 0), (V.ptr 1 0), (V.ptr 2 0), (V.int .i64 (k : Int)), t5, t6, t7, t8, t9, t10, t11, t12, t13, t14, t15, t16, t17, t18, t19, t20, t21, t22, t23, t24, t25, t26, t27, t28, t29, t30, V.un], [(V.ints .u64 10 a0), (V.ints .u8 32 (fun _ => 0)), (V.ints .u8 32 (rBytes_it a0 k))]⟩
  | 0, k, n, hk, hn, t5, t6, t7, t8, t9, t10, t11, t12, t13, t14, t15, t16, t17, t18, t19, t20, t21, t22, t23, t24, t25, t26, t27, t28, t29, t30 => by
    obtain ⟨n, rfl⟩ : ∃ m, n = m + 1 := ⟨n - 1, by omega⟩
    obtain rfl : k = 255 := by omega
    rw [rBytes_s]
    refine mBt (fun h => absurd (of_decide_eq_true h) (by simp)) (fun _ => ?_)
    exact hQ _ _ _ _ _ _ _ _ _ _ _ _ _ _ _ _ _ _ _ _ _ _ _ _ _ _
  | d + 1, k, n, hk, hn, t5, t6, t7, t8, t9, t10, t11, t12, t13, t14, t15, t16, t17, t18, t19, t20, t21, t22, t23, t24, t25, t26, t27, t28, t29, t30 => by
    obtain ⟨n, rfl⟩ : ∃ m, n = m + 1 := ⟨n - 1, by omega⟩
    have hi : (0 : Int) ≤ (k : Int) ∧ (k : Int) < 255 := by omega
    have g0 : (decide (0 ≤ (quoI .i64 (k : Int) 26) ∧ (quoI .i64 (k : Int) 26) < 10)) = true := by first | (rw [show quoI .i64 (k : Int) 8 = ((k / 8 : Nat) : Int) from quo_nat k 8 (by omega)]; exact bltT.2 (by simp; omega)) | (rw [show quoI .i64 (k : Int) 26 = ((k / 26 : Nat) : Int) from quo_nat k 26 (by omega)]; exact bltT.2 (by simp; omega)) | (rw [show quoI .i64 (k : Int) 8 = ((k / 8 : Nat) : Int) from quo_nat k 8 (by omega)]; simp; omega) | (rw [show quoI .i64 (k : Int) 26 = ((k / 26 : Nat) : Int) from quo_nat k 26 (by omega)]; simp; omega) | (rw [show remI (k : Int) 8 = ((k % 8 : Nat) : Int) from rem_nat k 8]; simp; omega) | (rw [show remI (k : Int) 26 = ((k % 26 : Nat) : Int) from rem_nat k 26]; simp; omega)
    have g1 : (Nat.blt (0 + (Int.toNat (quoI .i64 (k : Int) 26) * 1)) 10) = true := by first | (rw [show quoI .i64 (k : Int) 8 = ((k / 8 : Nat) : Int) from quo_nat k 8 (by omega)]; exact bltT.2 (by simp; omega)) | (rw [show quoI .i64 (k : Int) 26 = ((k / 26 : Nat) : Int) from quo_nat k 26 (by omega)]; exact bltT.2 (by simp; omega)) | (rw [show quoI .i64 (k : Int) 8 = ((k / 8 : Nat) : Int) from quo_nat k 8 (by omega)]; simp; omega) | (rw [show quoI .i64 (k : Int) 26 = ((k / 26 : Nat) : Int) from quo_nat k 26 (by omega)]; simp; omega) | (rw [show remI (k : Int) 8 = ((k % 8 : Nat) : Int) from rem_nat k 8]; simp; omega) | (rw [show remI (k : Int) 26 = ((k % 26 : Nat) : Int) from rem_nat k 26]; simp; omega)
    have g2 : (decide (0 ≤ (remI (k : Int) 26))) = true := by first | (rw [show quoI .i64 (k : Int) 8 = ((k / 8 : Nat) : Int) from quo_nat k 8 (by omega)]; exact bltT.2 (by simp; omega)) | (rw [show quoI .i64 (k : Int) 26 = ((k / 26 : Nat) : Int) from quo_nat k 26 (by omega)]; exact bltT.2 (by simp; omega)) | (rw [show quoI .i64 (k : Int) 8 = ((k / 8 : Nat) : Int) from quo_nat k 8 (by omega)]; simp; omega) | (rw [show quoI .i64 (k : Int) 26 = ((k / 26 : Nat) : Int) from quo_nat k 26 (by omega)]; simp; omega) | (rw [show remI (k : Int) 8 = ((k % 8 : Nat) : Int) from rem_nat k 8]; simp; omega) | (rw [show remI (k : Int) 26 = ((k % 26 : Nat) : Int) from rem_nat k 26]; simp; omega)
    have g3 : (decide (0 ≤ (quoI .i64 (k : Int) 8) ∧ (quoI .i64 (k : Int) 8) < 32)) = true := by first | (rw [show quoI .i64 (k : Int) 8 = ((k / 8 : Nat) : Int) from quo_nat k 8 (by omega)]; exact bltT.2 (by simp; omega)) | (rw [show quoI .i64 (k : Int) 26 = ((k / 26 : Nat) : Int) from quo_nat k 26 (by omega)]; exact bltT.2 (by simp; omega)) | (rw [show quoI .i64 (k : Int) 8 = ((k / 8 : Nat) : Int) from quo_nat k 8 (by omega)]; simp; omega) | (rw [show quoI .i64 (k : Int) 26 = ((k / 26 : Nat) : Int) from quo_nat k 26 (by omega)]; simp; omega) | (rw [show remI (k : Int) 8 = ((k % 8 : Nat) : Int) from rem_nat k 8]; simp; omega) | (rw [show remI (k : Int) 26 = ((k % 26 : Nat) : Int) from rem_nat k 26]; simp; omega)
    have g4 : (Nat.blt (0 + (Int.toNat (quoI .i64 (k : Int) 8) * 1)) 32) = true := by first | (rw [show quoI .i64 (k : Int) 8 = ((k / 8 : Nat) : Int) from quo_nat k 8 (by omega)]; exact bltT.2 (by simp; omega)) | (rw [show quoI .i64 (k : Int) 26 = ((k / 26 : Nat) : Int) from quo_nat k 26 (by omega)]; exact bltT.2 (by simp; omega)) | (rw [show quoI .i64 (k : Int) 8 = ((k / 8 : Nat) : Int) from quo_nat k 8 (by omega)]; simp; omega) | (rw [show quoI .i64 (k : Int) 26 = ((k / 26 : Nat) : Int) from quo_nat k 26 (by omega)]; simp; omega) | (rw [show remI (k : Int) 8 = ((k % 8 : Nat) : Int) from rem_nat k 8]; simp; omega) | (rw [show remI (k : Int) 26 = ((k % 26 : Nat) : Int) from rem_nat k 26]; simp; omega)
    have g5 : (decide (0 ≤ (remI (k : Int) 8))) = true := by first | (rw [show quoI .i64 (k : Int) 8 = ((k / 8 : Nat) : Int) from quo_nat k 8 (by omega)]; exact bltT.2 (by simp; omega)) | (rw [show quoI .i64 (k : Int) 26 = ((k / 26 : Nat) : Int) from quo_nat k 26 (by omega)]; exact bltT.2 (by simp; omega)) | (rw [show quoI .i64 (k : Int) 8 = ((k / 8 : Nat) : Int) from quo_nat k 8 (by omega)]; simp; omega) | (rw [show quoI .i64 (k : Int) 26 = ((k / 26 : Nat) : Int) from quo_nat k 26 (by omega)]; simp; omega) | (rw [show remI (k : Int) 8 = ((k % 8 : Nat) : Int) from rem_nat k 8]; simp; omega) | (rw [show remI (k : Int) 26 = ((k % 26 : Nat) : Int) from rem_nat k 26]; simp; omega)
    have hnx : (addI .i64 (k : Int) 1) = ((k + 1 : Nat) : Int) := by exact add1_nat k (by omega)
    rw [rBytes_s]
    refine mBt (fun _ => ?_) (fun h => absurd hi.2 (of_decide_eq_false h))
    refine gm g0 ?_
    refine gm g1 ?_
    refine gm g2 ?_
    refine gm g3 ?_
    refine gm g4 ?_
    refine gm g5 ?_
    refine gm g3 ?_
    refine gm g4 ?_
    rw [hnx]
    have h := rBytes_l a0 Q hQ d (k + 1) n (by omega) (by omega)
    simp only [rBytes_it, rBytes_st] at h
    exact h _ _ _ _ _ _ _ _ _ _ _ _ _ _ _ _ _ _ _ _ _ _ _ _ _ _

def rBytes (a0 : Nat → Int) : Nat → Int := rBytes_it a0 255
theorem rBytes_a (a0 : (Nat → Int)) : awp Try.prog o36 noG 300 (body Try.f40) (ends Try.prog Try.f40 fun v _ => okV (V.ints .u8 32 (rBytes a0)) v) ⟨[(V.ints .u64 10 a0)] ++ List.replicate 31 V.un, []⟩ := by
  rw [rBytes_h]
  exact rBytes_l a0 _ (fun _ _ _ _ _ _ _ _ _ _ _ _ _ _ _ _ _ _ _ _ _ _ _ _ _ _ => by rw [rBytes_x]; exact okV_refl rfl) 255 0 300 (by omega) (by omega) _ _ _ _ _ _ _ _ _ _ _ _ _ _ _ _ _ _ _ _ _ _ _ _ _ _

def g40 : List V → Option (Bool × V) := fun | [.ints .u64 10 a0] => some (true, (V.ints .u8 32 (rBytes a0))) | _ => none
theorem rBytes_p (a0 : (Nat → Int)) : (∀ μ μ', V.den μ' (V.ints .u8 32 (rBytes a0)) = V.den μ (V.ints .u8 32 (rBytes a0))) ∧ ∀ μ w, PureAt Try.prog 40 (([(V.ints .u64 10 a0)] : List V).map (V.den μ)).toArray (V.den μ (V.ints .u8 32 (rBytes a0))) w :=
  pure_ok (F := o36) (N := 300) (fn := Try.f40) (args := [(V.ints .u64 10 a0)]) (r := (V.ints .u8 32 (rBytes a0))) (n := 31) hM o36_ok (noG_ok _) Try.func40 (by kernel_rfl) (by kernel_rfl) (by kernel_rfl) (by kernel_rfl) (rBytes_a a0) (by kernel_rfl)
theorem g40_ok (vs : List V) (v : V) (h : g40 vs = some (true, v)) : (∀ μ μ', v.den μ' = v.den μ) ∧ ∀ μ w, PureAt Try.prog 40 (vs.map (V.den μ)).toArray (v.den μ) w := by
  unfold g40 at h
  split at h
  · simp only [Option.some.injEq, Prod.mk.injEq, true_and] at h
    subst h
    exact rBytes_p _
  · simp at h
def o40 : Orc := ext 40 g40 o36
theorem o40_ok : OrcOK Try.prog o40 := ext_ok o36_ok g40_ok

/- fareboxref05.Canonical -/
def rCanonical (b : (Nat → Int)) : Bool := (eqN 32 (rBytes (rFromBytes b)) b)
theorem rCanonical_t (b : (Nat → Int)) : awp Try.prog o40 noG 300 (body Try.f38) (ends Try.prog Try.f38 fun v _ => okV (V.bool (rCanonical b)) v) ⟨[(V.ints .u8 32 b)] ++ List.replicate 7 V.un, []⟩ = ((V.bool (rCanonical b)).den z0 = (V.bool (rCanonical b)).den z0) := by kernel_rfl
theorem rCanonical_a (b : (Nat → Int)) : awp Try.prog o40 noG 300 (body Try.f38) (ends Try.prog Try.f38 fun v _ => okV (V.bool (rCanonical b)) v) ⟨[(V.ints .u8 32 b)] ++ List.replicate 7 V.un, []⟩ := by rw [rCanonical_t]
def g38 : List V → Option (Bool × V) := fun | [.ints .u8 32 b] => some (true, (V.bool (rCanonical b))) | _ => none
theorem rCanonical_p (b : (Nat → Int)) : (∀ μ μ', V.den μ' (V.bool (rCanonical b)) = V.den μ (V.bool (rCanonical b))) ∧ ∀ μ w, PureAt Try.prog 38 (([(V.ints .u8 32 b)] : List V).map (V.den μ)).toArray (V.den μ (V.bool (rCanonical b))) w :=
  pure_ok (F := o40) (N := 300) (fn := Try.f38) (args := [(V.ints .u8 32 b)]) (r := (V.bool (rCanonical b))) (n := 7) hM o40_ok (noG_ok _) Try.func38 (by kernel_rfl) (by kernel_rfl) (by kernel_rfl) (by kernel_rfl) (rCanonical_a b) (by kernel_rfl)
theorem g38_ok (vs : List V) (v : V) (h : g38 vs = some (true, v)) : (∀ μ μ', v.den μ' = v.den μ) ∧ ∀ μ w, PureAt Try.prog 38 (vs.map (V.den μ)).toArray (v.den μ) w := by
  unfold g38 at h
  split at h
  · simp only [Option.some.injEq, Prod.mk.injEq, true_and] at h
    subst h
    exact rCanonical_p _
  · simp at h
def o38 : Orc := ext 38 g38 o40
theorem o38_ok : OrcOK Try.prog o38 := ext_ok o40_ok g38_ok
end Go.Proofs.Ytbnclikjbnfodaa
