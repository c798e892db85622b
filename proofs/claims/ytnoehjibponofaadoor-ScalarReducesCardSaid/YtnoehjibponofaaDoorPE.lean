/-
  below: the walk. Conditions: none.
-/
import Derived.Test.YtnoehjibponofaaDoorPD
namespace Go.Proofs.YtnoehjibponofaaDoor
open Go.Ev
theorem below_h (o x : Nat → Int) (N : Nat) (R : V) : awp Tryd.prog p39 noG N (body Tryd.f52) (ends Tryd.prog Tryd.f52 fun v _ => okV R v) ⟨[(V.ints .u64 4 x)] ++ List.replicate 28 V.un, [(V.tup [V.fn 2, (V.ints .u64 4 o)])]⟩ = (lp (awp Tryd.prog p39 noG N (loopOf (body Tryd.f52))) (spineQ Tryd.prog p39 noG N (body Tryd.f52) (ends Tryd.prog Tryd.f52 fun v _ => okV R v)) N ⟨[(V.ints .u64 4 x), (V.ptr 1 0), (V.ptr 2 0), V.un, V.un, V.un, V.un, V.un, V.un, V.un, V.un, V.un, V.un, V.un, V.un, V.un, V.un, V.un, V.un, V.un, V.un, V.un, V.un, V.un, V.un, V.un, V.un, V.un, V.un], [(V.tup [V.fn 2, (V.ints .u64 4 o)]), (V.ints .u64 4 x), (V.ints .u64 4 (fun _ => 0))]⟩) := by kernel_rfl
theorem below_s (o x : Nat → Int) (a : Nat → Int) (t3 t4 t5 t6 t7 t8 t9 t10 t11 t12 t13 t14 t15 t16 t17 t18 t19 t20 t21 t22 t23 t24 t25 t26 t27 : V) (Q : Exit → St → Prop) (m : Nat) : lp (awp Tryd.prog p39 noG 300 (loopOf (body Tryd.f52))) Q (m + 1) ⟨[(V.ints .u64 4 x), (V.ptr 1 0), (V.ptr 2 0), t3, t4, t5, t6, t7, t8, t9, t10, t11, t12, t13, t14, t15, t16, t17, t18, t19, t20, t21, t22, t23, t24, t25, t26, t27, V.un], [(V.tup [V.fn 2, (V.ints .u64 4 o)]), (V.ints .u64 4 a), (V.ints .u64 4 (fun _ => 0))]⟩ = (mB (decide ((a 3) < (o 3))) (Q (.exit 0) ⟨[(V.ints .u64 4 x), (V.ptr 1 0), (V.ptr 2 0), (V.int .i64 3), (V.int .i64 3), (V.bool true), t6, t7, (V.int .i64 3), (V.ptr 1 3), (V.int .u64 (a 3)), (V.int .i64 3), (V.wild (some ⟨2, 3, none⟩)), (V.int .u64 (o 3)), (V.bool (decide ((a 3) < (o 3)))), t15, t16, t17, t18, t19, t20, t21, t22, t23, t24, t25, t26, t27, V.un], [(V.tup [V.fn 2, (V.ints .u64 4 o)]), (V.ints .u64 4 a), (V.ints .u64 4 (fun _ => 0))]⟩) (mB (decide ((a 3) > (o 3))) (lp (awp Tryd.prog p39 noG 300 (loopOf (body Tryd.f52))) Q m ⟨[(V.ints .u64 4 x), (V.ptr 1 0), (V.ptr 2 0), (V.int .i64 3), (V.int .i64 3), (V.bool true), t6, t7, (V.int .i64 3), (V.ptr 1 3), (V.int .u64 (a 3)), (V.int .i64 3), (V.wild (some ⟨2, 3, none⟩)), (V.int .u64 (o 3)), (V.bool (decide ((a 3) < (o 3)))), (V.int .i64 3), (V.ptr 1 3), (V.int .u64 (a 3)), (V.int .i64 3), (V.wild (some ⟨2, 3, none⟩)), (V.int .u64 (o 3)), (V.bool (decide ((a 3) > (o 3)))), (V.tup [(V.ints .u64 4 (minusF a o)), (V.int .u64 (bc a o 4))]), (V.ints .u64 4 a), (V.ints .u64 4 o), (V.tup [(V.ints .u64 4 (minusF a o)), (V.int .u64 (bc a o 4))]), (V.ints .u64 4 (minusF a o)), (V.int .u64 (bc a o 4)), V.un], [(V.tup [V.fn 2, (V.ints .u64 4 o)]), (V.ints .u64 4 (minusF a o)), (V.ints .u64 4 (fun _ => 0))]⟩) (mB (decide ((a 2) < (o 2))) (Q (.exit 0) ⟨[(V.ints .u64 4 x), (V.ptr 1 0), (V.ptr 2 0), (V.int .i64 2), (V.int .i64 2), (V.bool true), (V.int .i64 3), (V.int .i64 2), (V.int .i64 2), (V.ptr 1 2), (V.int .u64 (a 2)), (V.int .i64 2), (V.wild (some ⟨2, 2, none⟩)), (V.int .u64 (o 2)), (V.bool (decide ((a 2) < (o 2)))), (V.int .i64 3), (V.ptr 1 3), (V.int .u64 (a 3)), (V.int .i64 3), (V.wild (some ⟨2, 3, none⟩)), (V.int .u64 (o 3)), (V.bool (decide ((a 3) > (o 3)))), t22, t23, t24, t25, t26, t27, V.un], [(V.tup [V.fn 2, (V.ints .u64 4 o)]), (V.ints .u64 4 a), (V.ints .u64 4 (fun _ => 0))]⟩) (mB (decide ((a 2) > (o 2))) (lp (awp Tryd.prog p39 noG 300 (loopOf (body Tryd.f52))) Q m ⟨[(V.ints .u64 4 x), (V.ptr 1 0), (V.ptr 2 0), (V.int .i64 2), (V.int .i64 2), (V.bool true), (V.int .i64 3), (V.int .i64 2), (V.int .i64 2), (V.ptr 1 2), (V.int .u64 (a 2)), (V.int .i64 2), (V.wild (some ⟨2, 2, none⟩)), (V.int .u64 (o 2)), (V.bool (decide ((a 2) < (o 2)))), (V.int .i64 2), (V.ptr 1 2), (V.int .u64 (a 2)), (V.int .i64 2), (V.wild (some ⟨2, 2, none⟩)), (V.int .u64 (o 2)), (V.bool (decide ((a 2) > (o 2)))), (V.tup [(V.ints .u64 4 (minusF a o)), (V.int .u64 (bc a o 4))]), (V.ints .u64 4 a), (V.ints .u64 4 o), (V.tup [(V.ints .u64 4 (minusF a o)), (V.int .u64 (bc a o 4))]), (V.ints .u64 4 (minusF a o)), (V.int .u64 (bc a o 4)), V.un], [(V.tup [V.fn 2, (V.ints .u64 4 o)]), (V.ints .u64 4 (minusF a o)), (V.ints .u64 4 (fun _ => 0))]⟩) (mB (decide ((a 1) < (o 1))) (Q (.exit 0) ⟨[(V.ints .u64 4 x), (V.ptr 1 0), (V.ptr 2 0), (V.int .i64 1), (V.int .i64 1), (V.bool true), (V.int .i64 2), (V.int .i64 1), (V.int .i64 1), (V.ptr 1 1), (V.int .u64 (a 1)), (V.int .i64 1), (V.wild (some ⟨2, 1, none⟩)), (V.int .u64 (o 1)), (V.bool (decide ((a 1) < (o 1)))), (V.int .i64 2), (V.ptr 1 2), (V.int .u64 (a 2)), (V.int .i64 2), (V.wild (some ⟨2, 2, none⟩)), (V.int .u64 (o 2)), (V.bool (decide ((a 2) > (o 2)))), t22, t23, t24, t25, t26, t27, V.un], [(V.tup [V.fn 2, (V.ints .u64 4 o)]), (V.ints .u64 4 a), (V.ints .u64 4 (fun _ => 0))]⟩) (mB (decide ((a 1) > (o 1))) (lp (awp Tryd.prog p39 noG 300 (loopOf (body Tryd.f52))) Q m ⟨[(V.ints .u64 4 x), (V.ptr 1 0), (V.ptr 2 0), (V.int .i64 1), (V.int .i64 1), (V.bool true), (V.int .i64 2), (V.int .i64 1), (V.int .i64 1), (V.ptr 1 1), (V.int .u64 (a 1)), (V.int .i64 1), (V.wild (some ⟨2, 1, none⟩)), (V.int .u64 (o 1)), (V.bool (decide ((a 1) < (o 1)))), (V.int .i64 1), (V.ptr 1 1), (V.int .u64 (a 1)), (V.int .i64 1), (V.wild (some ⟨2, 1, none⟩)), (V.int .u64 (o 1)), (V.bool (decide ((a 1) > (o 1)))), (V.tup [(V.ints .u64 4 (minusF a o)), (V.int .u64 (bc a o 4))]), (V.ints .u64 4 a), (V.ints .u64 4 o), (V.tup [(V.ints .u64 4 (minusF a o)), (V.int .u64 (bc a o 4))]), (V.ints .u64 4 (minusF a o)), (V.int .u64 (bc a o 4)), V.un], [(V.tup [V.fn 2, (V.ints .u64 4 o)]), (V.ints .u64 4 (minusF a o)), (V.ints .u64 4 (fun _ => 0))]⟩) (mB (decide ((a 0) < (o 0))) (Q (.exit 0) ⟨[(V.ints .u64 4 x), (V.ptr 1 0), (V.ptr 2 0), (V.int .i64 0), (V.int .i64 0), (V.bool true), (V.int .i64 1), (V.int .i64 0), (V.int .i64 0), (V.ptr 1 0), (V.int .u64 (a 0)), (V.int .i64 0), (V.wild (some ⟨2, 0, none⟩)), (V.int .u64 (o 0)), (V.bool (decide ((a 0) < (o 0)))), (V.int .i64 1), (V.ptr 1 1), (V.int .u64 (a 1)), (V.int .i64 1), (V.wild (some ⟨2, 1, none⟩)), (V.int .u64 (o 1)), (V.bool (decide ((a 1) > (o 1)))), t22, t23, t24, t25, t26, t27, V.un], [(V.tup [V.fn 2, (V.ints .u64 4 o)]), (V.ints .u64 4 a), (V.ints .u64 4 (fun _ => 0))]⟩) (mB (decide ((a 0) > (o 0))) (lp (awp Tryd.prog p39 noG 300 (loopOf (body Tryd.f52))) Q m ⟨[(V.ints .u64 4 x), (V.ptr 1 0), (V.ptr 2 0), (V.int .i64 0), (V.int .i64 0), (V.bool true), (V.int .i64 1), (V.int .i64 0), (V.int .i64 0), (V.ptr 1 0), (V.int .u64 (a 0)), (V.int .i64 0), (V.wild (some ⟨2, 0, none⟩)), (V.int .u64 (o 0)), (V.bool (decide ((a 0) < (o 0)))), (V.int .i64 0), (V.ptr 1 0), (V.int .u64 (a 0)), (V.int .i64 0), (V.wild (some ⟨2, 0, none⟩)), (V.int .u64 (o 0)), (V.bool (decide ((a 0) > (o 0)))), (V.tup [(V.ints .u64 4 (minusF a o)), (V.int .u64 (bc a o 4))]), (V.ints .u64 4 a), (V.ints .u64 4 o), (V.tup [(V.ints .u64 4 (minusF a o)), (V.int .u64 (bc a o 4))]), (V.ints .u64 4 (minusF a o)), (V.int .u64 (bc a o 4)), V.un], [(V.tup [V.fn 2, (V.ints .u64 4 o)]), (V.ints .u64 4 (minusF a o)), (V.ints .u64 4 (fun _ => 0))]⟩) (lp (awp Tryd.prog p39 noG 300 (loopOf (body Tryd.f52))) Q m ⟨[(V.ints .u64 4 x), (V.ptr 1 0), (V.ptr 2 0), (V.int .i64 (-1)), (V.int .i64 (-1)), (V.bool false), (V.int .i64 0), (V.int .i64 (-1)), (V.int .i64 0), (V.ptr 1 0), (V.int .u64 (a 0)), (V.int .i64 0), (V.wild (some ⟨2, 0, none⟩)), (V.int .u64 (o 0)), (V.bool (decide ((a 0) < (o 0)))), (V.int .i64 0), (V.ptr 1 0), (V.int .u64 (a 0)), (V.int .i64 0), (V.wild (some ⟨2, 0, none⟩)), (V.int .u64 (o 0)), (V.bool (decide ((a 0) > (o 0)))), (V.tup [(V.ints .u64 4 (minusF a o)), (V.int .u64 (bc a o 4))]), (V.ints .u64 4 a), (V.ints .u64 4 o), (V.tup [(V.ints .u64 4 (minusF a o)), (V.int .u64 (bc a o 4))]), (V.ints .u64 4 (minusF a o)), (V.int .u64 (bc a o 4)), V.un], [(V.tup [V.fn 2, (V.ints .u64 4 o)]), (V.ints .u64 4 (minusF a o)), (V.ints .u64 4 (fun _ => 0))]⟩))))))))) := by kernel_rfl
theorem below_x (o x : Nat → Int) (a : Nat → Int) (t3 t4 t5 t6 t7 t8 t9 t10 t11 t12 t13 t14 t15 t16 t17 t18 t19 t20 t21 t22 t23 t24 t25 t26 t27 : V) (R : V) : spineQ Tryd.prog p39 noG 300 (body Tryd.f52) (ends Tryd.prog Tryd.f52 fun v _ => okV R v) (.exit 0) ⟨[(V.ints .u64 4 x), (V.ptr 1 0), (V.ptr 2 0), t3, t4, t5, t6, t7, t8, t9, t10, t11, t12, t13, t14, t15, t16, t17, t18, t19, t20, t21, t22, t23, t24, t25, t26, t27, V.un], [(V.tup [V.fn 2, (V.ints .u64 4 o)]), (V.ints .u64 4 a), (V.ints .u64 4 (fun _ => 0))]⟩ = (okV R (V.ints .u64 4 a)) := by kernel_rfl
theorem bel_t {o a : Nat → Int} {n : Nat} (h : lessB a o = true) : belowR o (n + 1) a = a := by simp only [belowR, h, cond_true]
theorem bel_f {o a : Nat → Int} {n : Nat} (h : lessB a o = false) : belowR o (n + 1) a = belowR o n (minusF a o) := by simp only [belowR, h, cond_false]
theorem fin_f {o a : Nat → Int} {n : Nat} (hf : fin o (n + 1) a = true) (h : lessB a o = false) : fin o n (minusF a o) = true := by simpa only [fin, h, cond_false] using hf
theorem below_l (o x : Nat → Int) : ∀ (n m : Nat) (a : Nat → Int), fin o n a = true → n ≤ m → belowR o 16 x = belowR o n a → ∀ (t3 t4 t5 t6 t7 t8 t9 t10 t11 t12 t13 t14 t15 t16 t17 t18 t19 t20 t21 t22 t23 t24 t25 t26 t27 : V),
    lp (awp Tryd.prog p39 noG 300 (loopOf (body Tryd.f52))) (spineQ Tryd.prog p39 noG 300 (body Tryd.f52) (ends Tryd.prog Tryd.f52 fun v _ => okV (V.ints .u64 4 (belowR o 16 x)) v)) m ⟨[(V.ints .u64 4 x), (V.ptr 1 0), (V.ptr 2 0), t3, t4, t5, t6, t7, t8, t9, t10, t11, t12, t13, t14, t15, t16, t17, t18, t19, t20, t21, t22, t23, t24, t25, t26, t27, V.un], [(V.tup [V.fn 2, (V.ints .u64 4 o)]), (V.ints .u64 4 a), (V.ints .u64 4 (fun _ => 0))]⟩
  | 0, m, a, hf, _, _, t3, t4, t5, t6, t7, t8, t9, t10, t11, t12, t13, t14, t15, t16, t17, t18, t19, t20, t21, t22, t23, t24, t25, t26, t27 => by cases hf
  | n + 1, m, a, hf, hm, he, t3, t4, t5, t6, t7, t8, t9, t10, t11, t12, t13, t14, t15, t16, t17, t18, t19, t20, t21, t22, t23, t24, t25, t26, t27 => by
    obtain ⟨m, rfl⟩ : ∃ z, m = z + 1 := ⟨m - 1, by omega⟩
    rw [below_s]
    refine mBt (fun h1t => ?_) (fun h1f => ?_)
    · rw [below_x, he, bel_t (by simp only [lessB, h1t, cond_true])]
      exact okV_refl rfl
    · refine mBt (fun h2t => ?_) (fun h2f => ?_)
      · exact below_l o x n m _ (fin_f hf (by simp only [lessB, h1f, h2t, cond_true, cond_false])) (by omega) (he.trans (bel_f (by simp only [lessB, h1f, h2t, cond_true, cond_false]))) _ _ _ _ _ _ _ _ _ _ _ _ _ _ _ _ _ _ _ _ _ _ _ _ _
      · refine mBt (fun h3t => ?_) (fun h3f => ?_)
        · rw [below_x, he, bel_t (by simp only [lessB, h1f, h2f, h3t, cond_true, cond_false])]
          exact okV_refl rfl
        · refine mBt (fun h4t => ?_) (fun h4f => ?_)
          · exact below_l o x n m _ (fin_f hf (by simp only [lessB, h1f, h2f, h3f, h4t, cond_true, cond_false])) (by omega) (he.trans (bel_f (by simp only [lessB, h1f, h2f, h3f, h4t, cond_true, cond_false]))) _ _ _ _ _ _ _ _ _ _ _ _ _ _ _ _ _ _ _ _ _ _ _ _ _
          · refine mBt (fun h5t => ?_) (fun h5f => ?_)
            · rw [below_x, he, bel_t (by simp only [lessB, h1f, h2f, h3f, h4f, h5t, cond_true, cond_false])]
              exact okV_refl rfl
            · refine mBt (fun h6t => ?_) (fun h6f => ?_)
              · exact below_l o x n m _ (fin_f hf (by simp only [lessB, h1f, h2f, h3f, h4f, h5f, h6t, cond_true, cond_false])) (by omega) (he.trans (bel_f (by simp only [lessB, h1f, h2f, h3f, h4f, h5f, h6t, cond_true, cond_false]))) _ _ _ _ _ _ _ _ _ _ _ _ _ _ _ _ _ _ _ _ _ _ _ _ _
              · refine mBt (fun h7t => ?_) (fun h7f => ?_)
                · rw [below_x, he, bel_t (by simp only [lessB, h1f, h2f, h3f, h4f, h5f, h6f, h7t, cond_true, cond_false])]
                  exact okV_refl rfl
                · refine mBt (fun h8t => ?_) (fun h8f => ?_)
                  · exact below_l o x n m _ (fin_f hf (by simp only [lessB, h1f, h2f, h3f, h4f, h5f, h6f, h7f, h8t, cond_true, cond_false])) (by omega) (he.trans (bel_f (by simp only [lessB, h1f, h2f, h3f, h4f, h5f, h6f, h7f, h8t, cond_true, cond_false]))) _ _ _ _ _ _ _ _ _ _ _ _ _ _ _ _ _ _ _ _ _ _ _ _ _
                  · exact below_l o x n m _ (fin_f hf (by simp only [lessB, h1f, h2f, h3f, h4f, h5f, h6f, h7f, h8f, cond_false])) (by omega) (he.trans (bel_f (by simp only [lessB, h1f, h2f, h3f, h4f, h5f, h6f, h7f, h8f, cond_false]))) _ _ _ _ _ _ _ _ _ _ _ _ _ _ _ _ _ _ _ _ _ _ _ _ _

/-- L, by words. -/
def ordF : Nat → Int := L [6346243789798364141, 1503914060200516822, 0, 1152921504606846976]
theorem eqN_at {n : Nat} {f g : Nat → Int} : eqN n f g = true → ∀ j, j < n → f j = g j := by
  induction n with
  | zero => intro _ j hj; omega
  | succ n ih =>
    intro h j hj
    simp only [eqN, Bool.and_eq_true, beq_iff_eq] at h
    by_cases e : j = n
    · subst e; exact h.2
    · exact ih h.1 j (by omega)
theorem ord_u4 : u4 ordF = true := by decide
theorem ord_v : lv4 ordF = 7237005577332262213973186563042994240857116359379907606001950938285454250989 := by decide
theorem eq_ord {o : Nat → Int} (h : eqN 4 o ordF = true) : u4 o = true ∧ lv4 o = 7237005577332262213973186563042994240857116359379907606001950938285454250989 := by
  have e := eqN_at h
  have e0 := e 0 (by omega); have e1 := e 1 (by omega); have e2 := e 2 (by omega); have e3 := e 3 (by omega)
  refine ⟨?_, ?_⟩
  · have := ord_u4
    simp only [u4] at this ⊢
    rw [e0, e1, e2, e3]; exact this
  · rw [← ord_v]
    simp only [lv4]
    rw [e0, e1, e2, e3]
theorem fin_ok {o x : Nat → Int} (hx : u4 x = true) (ho : eqN 4 o ordF = true) : u4 (belowR o 16 x) = true ∧ lv4 (belowR o 16 x) = lv4 x % 7237005577332262213973186563042994240857116359379907606001950938285454250989 ∧ fin o 16 x = true := by
  obtain ⟨h1, h2⟩ := eq_ord ho
  have := lv4_nn hx
  have := below_v h1 (by rw [h2]; omega) 16 x hx (by rw [h2]; omega)
  rwa [h2] at this
theorem below_a {o x : Nat → Int} (hx : u4 x = true) (ho : eqN 4 o ordF = true) : awp Tryd.prog p39 noG 300 (body Tryd.f52) (ends Tryd.prog Tryd.f52 fun v _ => okV (V.ints .u64 4 (belowR o 16 x)) v) ⟨[V.ints .u64 4 x] ++ List.replicate 28 V.un, [V.tup [V.fn 2, V.ints .u64 4 o]]⟩ := by
  rw [below_h]
  exact below_l o x 16 300 x (fin_ok hx ho).2.2 (by omega) rfl _ _ _ _ _ _ _ _ _ _ _ _ _ _ _ _ _ _ _ _ _ _ _ _ _
def g52 : List V → List V → Option (Bool × V) := fun vs m => match views [2] vs m with
  | some ([.ints .u64 4 x], [.tup [.fn 2, .ints .u64 4 o]]) => some (u4 x && eqN 4 o ordF, .ints .u64 4 (belowR o 16 x))
  | _ => none
theorem g52_ok (vs m : List V) (v : V) (h : g52 vs m = some (true, v)) : v.flat = true ∧ ∀ μ B w0 w, Under B w0 → Rel μ B w0 m w → PureAt Tryd.prog 52 (vs.map (V.den μ)).toArray (v.den μ) w := by
  unfold g52 at h
  split at h
  · rename_i x o hv
    simp only [Option.some.injEq, Prod.mk.injEq, Bool.and_eq_true] at h
    obtain ⟨⟨h1, h2⟩, rfl⟩ := h
    refine ⟨rfl, ?_⟩
    exact reads_ok (fn := Tryd.f52) (N := 300) (n := 28) hM p39_ok (noG_ok _) Tryd.func52 (by kernel_rfl) (by kernel_rfl) hv rfl (below_a h1 h2) (by kernel_rfl)
  · cases h
theorem g52_grow (vs m : List V) (z : V) (r : Bool × V) (h : g52 vs m = some r) : g52 vs (m ++ [z]) = some r := by
  unfold g52 at h ⊢
  cases hv : views [2] vs m with
  | none => rw [hv] at h; cases h
  | some p => rw [hv] at h; rw [views_grow hv]; exact h
def p52 : Orc := extM 52 g52 p39
theorem p52_ok : OrcOK Tryd.prog p52 := extM_ok p39_ok g52_ok g52_grow
end Go.Proofs.YtnoehjibponofaaDoor
