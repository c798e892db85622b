/-
  Digits: signed digits to the base 16; they make the number again. Conditions: none.
-/
import Derived.Test.YtnoehjibponofaaDoorPU
namespace Go.Proofs.YtnoehjibponofaaDoor
open Go.Ev Go.Num
def nibF (a : Nat → Int) (i : Nat) : Int := andI .u8 (shrI .u8 (a (i / 2)) ((4 * (i % 2) : Nat) : Int)) 15
def dgK (a : Nat → Int) : Nat → Int
  | 0 => 0
  | k + 1 => shrI .i8 (addI .i8 (addI .i8 (IntKind.wrap .i8 (nibF a k)) (dgK a k)) 8) 4
def dgF (a : Nat → Int) : Nat → (Nat → Int)
  | 0 => fun _ => 0
  | k + 1 => up k (subI .i8 (addI .i8 (IntKind.wrap .i8 (nibF a k)) (dgK a k)) (shlI .i8 (shrI .i8 (addI .i8 (addI .i8 (IntKind.wrap .i8 (nibF a k)) (dgK a k)) 8) 4) 4)) (dgF a k)
theorem dig_t (o a : Nat → Int) (r : V) : awp Tryd.prog p31 noG 300 (body Tryd.f13) (ends Tryd.prog Tryd.f13 fun v _ => okV r v) ⟨[V.ints .u8 32 a] ++ List.replicate 37 V.un, [V.tup [V.fn 2, V.ints .u64 4 o]]⟩ = (gB (eqN 4 o ordF) (mB (!(canO a)) (okV r (V.tup [V.ints .i8 64 (fun _ => 0), V.bool false])) (okV r (V.tup [V.ints .i8 64 (dgF a 64), V.bool true])))) := by kernel_rfl
noncomputable def digO : (Nat → Int) → Nat → Int := Classical.choose (hide_ex fun a => cond (canO a) (dgF a 64) (fun _ => 0))
theorem digO_eq : digO = fun a => cond (canO a) (dgF a 64) (fun _ => 0) := Classical.choose_spec (hide_ex fun a => cond (canO a) (dgF a 64) (fun _ => 0))
theorem dig_a {o a : Nat → Int} (ho : eqN 4 o ordF = true) : awp Tryd.prog p31 noG 300 (body Tryd.f13) (ends Tryd.prog Tryd.f13 fun v _ => okV (V.tup [V.ints .i8 64 (digO a), V.bool (canO a)]) v) ⟨[V.ints .u8 32 a] ++ List.replicate 37 V.un, [V.tup [V.fn 2, V.ints .u64 4 o]]⟩ := by
  rw [dig_t]
  refine gm ho (mBt (fun h => ?_) (fun h => ?_))
  · have h : canO a = false := by simpa using h
    rw [digO_eq]
    simp only [h, cond_false]
    exact okV_refl rfl
  · have h : canO a = true := by simpa using h
    rw [digO_eq]
    simp only [h, cond_true]
    exact okV_refl rfl
noncomputable def g13 : List V → List V → Option (Bool × V) := fun vs m => match views [2] vs m with
  | some ([.ints .u8 32 a], [.tup [.fn 2, .ints .u64 4 o]]) => some (eqN 4 o ordF, .tup [.ints .i8 64 (digO a), .bool (canO a)])
  | _ => none
theorem g13_ok (vs m : List V) (v : V) (h : g13 vs m = some (true, v)) : v.flat = true ∧ ∀ μ B w0 w, Under B w0 → Rel μ B w0 m w → PureAt Tryd.prog 13 (vs.map (V.den μ)).toArray (v.den μ) w := by
  unfold g13 at h
  split at h
  · rename_i a o hv
    simp only [Option.some.injEq, Prod.mk.injEq] at h
    obtain ⟨h1, rfl⟩ := h
    refine ⟨rfl, ?_⟩
    exact reads_ok (fn := Tryd.f13) (N := 300) (n := 37) hM p31_ok (noG_ok _) Tryd.func13 (by kernel_rfl) (by kernel_rfl) hv rfl (dig_a h1) (by kernel_rfl)
  · cases h
theorem g13_grow (vs m : List V) (z : V) (r : Bool × V) (h : g13 vs m = some r) : g13 vs (m ++ [z]) = some r := by
  unfold g13 at h ⊢
  cases hv : views [2] vs m with
  | none => rw [hv] at h; cases h
  | some p => rw [hv] at h; rw [views_grow hv]; exact h
noncomputable def p13 : Orc := extM 13 g13 p31
theorem p13_ok : OrcOK Tryd.prog p13 := extM_ok p31_ok g13_ok g13_grow
/-! ### The digits as numbers -/
theorem shrU8 (a : Int) (k : Nat) (hk : k ≤ 8) : shrI .u8 a (k : Int) = a / 2 ^ k := by
  unfold shrI
  rw [show min (Int.toNat (k : Int)) (IntKind.bits .u8) = k from Nat.min_eq_left hk]
  exact Int.fdiv_eq_ediv_of_nonneg _ (by exact_mod_cast Nat.zero_le (2 ^ k))
theorem and8_15 (a : Int) : andI .u8 a 15 = a % 16 := by
  unfold andI bits2
  have e1 : (BitVec.ofInt (IntKind.bits .u8) a).toNat = (a % 256).toNat := by rw [BitVec.toNat_ofInt]; rfl
  have e2 : (BitVec.ofInt (IntKind.bits .u8) 15).toNat = 2 ^ 4 - 1 := by decide
  rw [BitVec.toNat_and, e1, e2, Nat.and_two_pow_sub_one_eq_mod, wrap_u8]
  omega
theorem nib_v (a : Nat → Int) (i : Nat) : nibF a i = a (i / 2) / 16 ^ (i % 2) % 16 := by
  unfold nibF
  rw [and8_15, shrU8 _ _ (by omega), Int.pow_mul]; rfl
theorem nib_lt (a : Nat → Int) (i : Nat) : 0 ≤ nibF a i ∧ nibF a i < 16 := by rw [nib_v]; omega
theorem dv16 : ∀ (n : Nat) (a : Nat → Int), By n a → dv 256 n a = dv 16 (2 * n) (nibF a)
  | 0, _, _ => rfl
  | n + 1, a, h => by
    have ih := dv16 n (fun i => a (i + 1)) (fun j hj => h (j + 1) (by omega))
    rw [show 2 * (n + 1) = (2 * n + 1) + 1 by omega, dv, dv, dv, ih]
    have e : (fun i => nibF a (i + 1 + 1)) = nibF (fun i => a (i + 1)) := by
      funext i
      rw [nib_v, nib_v, show (i + 1 + 1) / 2 = i / 2 + 1 by omega, show (i + 1 + 1) % 2 = i % 2 by omega]
    obtain ⟨h0, h1⟩ := h 0 (by omega)
    have n0 : nibF a 0 = a 0 % 16 := by rw [nib_v]; simp
    have n1 : nibF a (0 + 1) = a 0 / 16 := by rw [nib_v]; simp; omega
    rw [e, n0, n1]
    generalize dv 16 (2 * n) (nibF fun i => a (i + 1)) = x
    omega
theorem shl8 {c : Int} (h0 : 0 ≤ c) (h1 : c ≤ 1) : shlI .i8 c 4 = 16 * c := by
  have : c = 0 ∨ c = 1 := by omega
  rcases this with rfl | rfl <;> decide
theorem shr8i {x : Int} : shrI .i8 x 4 = x / 16 := by
  unfold shrI
  exact Int.fdiv_eq_ediv_of_nonneg _ (by decide)
theorem dg_v (a : Nat → Int) : ∀ k, (0 ≤ dgK a k ∧ dgK a k ≤ 1) ∧ (∀ j, j < k → -8 ≤ dgF a k j ∧ dgF a k j ≤ 7) ∧ dv 16 k (dgF a k) + pw 16 k * dgK a k = dv 16 k (nibF a)
  | 0 => ⟨⟨by simp [dgK], by simp [dgK]⟩, fun j hj => by omega, by simp [dv, dgK]⟩
  | k + 1 => by
    obtain ⟨⟨h0, h1⟩, h2, h3⟩ := dg_v a k
    obtain ⟨n0, n1⟩ := nib_lt a k
    have e1 : addI .i8 (IntKind.wrap .i8 (nibF a k)) (dgK a k) = nibF a k + dgK a k := by
      unfold addI
      rw [IntWalk.i8_in (nibF a k) (by omega), IntWalk.i8_in _ (by omega)]
    have e2 : shrI .i8 (addI .i8 (nibF a k + dgK a k) 8) 4 = (nibF a k + dgK a k + 8) / 16 := by
      rw [shr8i]; unfold addI; rw [IntWalk.i8_in _ (by omega)]
    simp only [dgK, dgF]
    rw [e1, e2, shl8 (by omega) (by omega)]
    have e3 : subI .i8 (nibF a k + dgK a k) (16 * ((nibF a k + dgK a k + 8) / 16)) = nibF a k + dgK a k - 16 * ((nibF a k + dgK a k + 8) / 16) := by
      unfold subI; rw [IntWalk.i8_in _ (by omega)]
    rw [e3]
    refine ⟨⟨by omega, by omega⟩, fun j hj => ?_, ?_⟩
    · rw [up_at]
      split
      · omega
      · exact h2 j (by omega)
    · rw [dv_top, dv_top, up_at, if_pos rfl, dv_congr (b := dgF a k) fun i hi => by rw [up_at, if_neg (by omega)], pw, Int.mul_sub, Int.mul_add]
      generalize (nibF a k + dgK a k + 8) / 16 = q
      have : pw 16 k * (16 * q) = 16 * pw 16 k * q := by rw [← Int.mul_assoc, Int.mul_comm (pw 16 k)]
      omega
/-- The digits make the number. -/
theorem dig_sum {a : Nat → Int} (ha : By 32 a) (hc : canO a = true) : dv 16 64 (dgF a 64) = num a ∧ ∀ j, j < 64 → -8 ≤ dgF a 64 j ∧ dgF a 64 j ≤ 7 := by
  rw [can_iff] at hc
  have hc := of_decide_eq_true hc
  obtain ⟨⟨h0, h1⟩, h2, h3⟩ := dg_v a 64
  rw [← dv16 32 a ha, ← num_bytes ha] at h3
  have hk : dgK a 64 = 0 := by
    obtain ⟨⟨k0, k1⟩, -, h4⟩ := dg_v a 63
    have hb := dv_bound (B := 16) (by omega) (n := 63) (a := nibF a) fun i _ => nib_lt a i
    have hn : num a = dv 16 63 (nibF a) + pw 16 63 * nibF a 63 := by rw [num_bytes ha, dv16 32 a ha, dv_top]
    have hp : pw 16 63 = 7237005577332262213973186563042994240829374041602535252466099000494570602496 := by decide
    obtain ⟨n0, n1⟩ := nib_lt a 63
    have hn1 : nibF a 63 ≤ 1 := by
      rw [hp] at hn hb
      unfold LL at hc
      omega
    have e1 : addI .i8 (IntKind.wrap .i8 (nibF a 63)) (dgK a 63) = nibF a 63 + dgK a 63 := by
      unfold addI
      rw [IntWalk.i8_in (nibF a 63) (by omega), IntWalk.i8_in _ (by omega)]
    have e2 : shrI .i8 (addI .i8 (nibF a 63 + dgK a 63) 8) 4 = (nibF a 63 + dgK a 63 + 8) / 16 := by
      rw [shr8i]; unfold addI; rw [IntWalk.i8_in _ (by omega)]
    show shrI .i8 (addI .i8 (addI .i8 (IntKind.wrap .i8 (nibF a 63)) (dgK a 63)) 8) 4 = 0
    rw [e1, e2]
    omega
  rw [hk, Int.mul_zero, Int.add_zero] at h3
  exact ⟨h3, h2⟩
theorem dgb_h (a : Nat → Int) (N : Nat) (R : V) : awp Tryd.prog p13 noG N (body Tryd.f11) (ends Tryd.prog Tryd.f11 fun v _ => okV R v) ⟨[(V.ints .u8 32 a)] ++ List.replicate 72 V.un, [(V.tup [V.fn 2, (V.ints .u64 4 ordF)]), (V.tup [V.fn 0, (V.ints .u8 32 oneF)]), (V.tup [V.fn 3, (V.ints .u8 32 twoF)])]⟩ = (lp (awp Tryd.prog p13 noG N (loopOf (body Tryd.f11))) (spineQ Tryd.prog p13 noG N (body Tryd.f11) (ends Tryd.prog Tryd.f11 fun v _ => okV R v)) N ⟨[(V.ints .u8 32 a), (V.ptr 3 0), (V.bool false), (V.ptr 4 0), (V.bool (canO a)), (V.ptr 5 0), (V.int .i64 63), (V.tup [(V.ints .i8 64 (digO a)), (V.bool (canO a))]), (V.ints .u8 32 a), (V.tup [(V.ints .i8 64 (digO a)), (V.bool (canO a))]), (V.ints .i8 64 (digO a)), (V.bool (canO a)), V.un, V.un, V.un, V.un, V.un, V.un, V.un, V.un, V.un, V.un, V.un, V.un, V.un, V.un, V.un, V.un, V.un, V.un, V.un, V.un, V.un, V.un, V.un, V.un, V.un, V.un, V.un, V.un, V.un, V.un, V.un, V.un, V.un, V.un, V.un, V.un, V.un, V.un, V.un, V.un, V.un, V.un, V.un, V.un, V.un, V.un, V.un, V.un, V.un, V.un, V.un, V.un, V.un, V.un, V.un, V.un, V.un, V.un, V.un, V.un, V.un], [(V.tup [V.fn 2, (V.ints .u64 4 ordF)]), (V.tup [V.fn 0, (V.ints .u8 32 oneF)]), (V.tup [V.fn 3, (V.ints .u8 32 twoF)]), (V.ints .u8 32 a), (V.ints .i8 64 (digO a)), (V.ints .u8 32 (fun _ => 0))]⟩) := by kernel_rfl
theorem dgb_s (a : Nat → Int) (i : Int) (q : Nat → Int) (t12 t13 t14 t15 t16 t17 t18 t19 t20 t21 t22 t23 t24 t25 t26 t27 t28 t29 t30 t31 t32 t33 t34 t35 t36 t37 t38 t39 t40 t41 t42 t43 t44 t45 t46 t47 t48 t49 t50 t51 t52 t53 t54 t55 t56 t57 : V) (Q : Exit → St → Prop) (m : Nat) : lp (awp Tryd.prog p13 noG 300 (loopOf (body Tryd.f11))) Q (m + 1) ⟨[(V.ints .u8 32 a), (V.ptr 3 0), (V.bool false), (V.ptr 4 0), (V.bool (canO a)), (V.ptr 5 0), (V.int .i64 i), (V.tup [(V.ints .i8 64 (digO a)), (V.bool (canO a))]), (V.ints .u8 32 a), (V.tup [(V.ints .i8 64 (digO a)), (V.bool (canO a))]), (V.ints .i8 64 (digO a)), (V.bool (canO a)), t12, t13, t14, t15, t16, t17, t18, t19, t20, t21, t22, t23, t24, t25, t26, t27, t28, t29, t30, t31, t32, t33, t34, t35, t36, t37, t38, t39, t40, t41, t42, t43, t44, t45, t46, t47, t48, t49, t50, t51, t52, t53, t54, t55, t56, t57, V.un, V.un, V.un, V.un, V.un, V.un, V.un, V.un, V.un, V.un, V.un, V.un, V.un, V.un, V.un], [(V.tup [V.fn 2, (V.ints .u64 4 ordF)]), (V.tup [V.fn 0, (V.ints .u8 32 oneF)]), (V.tup [V.fn 3, (V.ints .u8 32 twoF)]), (V.ints .u8 32 a), (V.ints .i8 64 (digO a)), (V.ints .u8 32 q)]⟩ = (mB (decide (i ≥ 0)) (gB (decide (0 ≤ i ∧ i < 64)) (gB (Nat.blt (0 + (Int.toNat i * 1)) 64) (mB (decide (((digO a) (0 + (Int.toNat i * 1))) < (-8))) (Q .ret ⟨[(V.ints .u8 32 a), (V.ptr 3 0), (V.bool false), (V.ptr 4 0), (V.bool (canO a)), (V.ptr 5 0), (V.int .i64 i), (V.tup [(V.ints .i8 64 (digO a)), (V.bool (canO a))]), (V.ints .u8 32 a), (V.tup [(V.ints .i8 64 (digO a)), (V.bool (canO a))]), (V.ints .i8 64 (digO a)), (V.bool (canO a)), (V.int .i64 i), (V.bool (decide (i ≥ 0))), t14, t15, (V.int .i64 i), (V.ptr 4 (0 + (Int.toNat i * 1))), (V.int .i8 ((digO a) (0 + (Int.toNat i * 1)))), (V.bool (decide (((digO a) (0 + (Int.toNat i * 1))) < (-8)))), (V.bool true), V.un, V.un, V.un, V.un, (V.bool true), (V.bool true), V.un, V.un, V.un, V.un, V.un, V.un, V.un, V.un, (V.bool true), t36, t37, t38, t39, t40, t41, t42, t43, t44, t45, t46, t47, t48, t49, t50, t51, t52, t53, t54, t55, t56, t57, V.un, V.un, V.un, V.un, V.un, V.un, V.un, V.un, V.un, V.un, V.un, V.un, V.un, V.un, V.un], [(V.tup [V.fn 2, (V.ints .u64 4 ordF)]), (V.tup [V.fn 0, (V.ints .u8 32 oneF)]), (V.tup [V.fn 3, (V.ints .u8 32 twoF)]), (V.ints .u8 32 a), (V.ints .i8 64 (digO a)), (V.ints .u8 32 q)]⟩) (gB (decide (0 ≤ i ∧ i < 64)) (gB (Nat.blt (0 + (Int.toNat i * 1)) 64) (mB (decide (((digO a) (0 + (Int.toNat i * 1))) > 7)) (Q .ret ⟨[(V.ints .u8 32 a), (V.ptr 3 0), (V.bool false), (V.ptr 4 0), (V.bool (canO a)), (V.ptr 5 0), (V.int .i64 i), (V.tup [(V.ints .i8 64 (digO a)), (V.bool (canO a))]), (V.ints .u8 32 a), (V.tup [(V.ints .i8 64 (digO a)), (V.bool (canO a))]), (V.ints .i8 64 (digO a)), (V.bool (canO a)), (V.int .i64 i), (V.bool (decide (i ≥ 0))), t14, t15, (V.int .i64 i), (V.ptr 4 (0 + (Int.toNat i * 1))), (V.int .i8 ((digO a) (0 + (Int.toNat i * 1)))), (V.bool (decide (((digO a) (0 + (Int.toNat i * 1))) < (-8)))), (V.bool false), (V.int .i64 i), (V.ptr 4 (0 + (Int.toNat i * 1))), (V.int .i8 ((digO a) (0 + (Int.toNat i * 1)))), (V.bool (decide (((digO a) (0 + (Int.toNat i * 1))) > 7))), (V.bool (decide (((digO a) (0 + (Int.toNat i * 1))) > 7))), (V.bool true), V.un, V.un, V.un, V.un, V.un, V.un, V.un, V.un, (V.bool true), t36, t37, t38, t39, t40, t41, t42, t43, t44, t45, t46, t47, t48, t49, t50, t51, t52, t53, t54, t55, t56, t57, V.un, V.un, V.un, V.un, V.un, V.un, V.un, V.un, V.un, V.un, V.un, V.un, V.un, V.un, V.un], [(V.tup [V.fn 2, (V.ints .u64 4 ordF)]), (V.tup [V.fn 0, (V.ints .u8 32 oneF)]), (V.tup [V.fn 3, (V.ints .u8 32 twoF)]), (V.ints .u8 32 a), (V.ints .i8 64 (digO a)), (V.ints .u8 32 q)]⟩) (mB (!(canO a)) (gB (decide (0 ≤ i ∧ i < 64)) (gB (Nat.blt (0 + (Int.toNat i * 1)) 64) (mB (((digO a) (0 + (Int.toNat i * 1))) != 0) (Q .ret ⟨[(V.ints .u8 32 a), (V.ptr 3 0), (V.bool false), (V.ptr 4 0), (V.bool (canO a)), (V.ptr 5 0), (V.int .i64 i), (V.tup [(V.ints .i8 64 (digO a)), (V.bool (canO a))]), (V.ints .u8 32 a), (V.tup [(V.ints .i8 64 (digO a)), (V.bool (canO a))]), (V.ints .i8 64 (digO a)), (V.bool (canO a)), (V.int .i64 i), (V.bool (decide (i ≥ 0))), t14, t15, (V.int .i64 i), (V.ptr 4 (0 + (Int.toNat i * 1))), (V.int .i8 ((digO a) (0 + (Int.toNat i * 1)))), (V.bool (decide (((digO a) (0 + (Int.toNat i * 1))) < (-8)))), (V.bool false), (V.int .i64 i), (V.ptr 4 (0 + (Int.toNat i * 1))), (V.int .i8 ((digO a) (0 + (Int.toNat i * 1)))), (V.bool (decide (((digO a) (0 + (Int.toNat i * 1))) > 7))), (V.bool (decide (((digO a) (0 + (Int.toNat i * 1))) > 7))), (V.bool false), (V.bool (canO a)), (V.bool (!(canO a))), (V.bool true), (V.int .i64 i), (V.ptr 4 (0 + (Int.toNat i * 1))), (V.int .i8 ((digO a) (0 + (Int.toNat i * 1)))), (V.bool (((digO a) (0 + (Int.toNat i * 1))) != 0)), (V.bool (((digO a) (0 + (Int.toNat i * 1))) != 0)), (V.bool (((digO a) (0 + (Int.toNat i * 1))) != 0)), t36, t37, t38, t39, t40, t41, t42, t43, t44, t45, t46, t47, t48, t49, t50, t51, t52, t53, t54, t55, t56, t57, V.un, V.un, V.un, V.un, V.un, V.un, V.un, V.un, V.un, V.un, V.un, V.un, V.un, V.un, V.un], [(V.tup [V.fn 2, (V.ints .u64 4 ordF)]), (V.tup [V.fn 0, (V.ints .u8 32 oneF)]), (V.tup [V.fn 3, (V.ints .u8 32 twoF)]), (V.ints .u8 32 a), (V.ints .i8 64 (digO a)), (V.ints .u8 32 q)]⟩) (gB (decide (0 ≤ i ∧ i < 64)) (gB (Nat.blt (0 + (Int.toNat i * 1)) 64) (mB (decide (((digO a) (0 + (Int.toNat i * 1))) ≥ 0)) (gB (decide (0 ≤ i ∧ i < 64)) (gB (Nat.blt (0 + (Int.toNat i * 1)) 64) (lp (awp Tryd.prog p13 noG 300 (loopOf (body Tryd.f11))) Q m ⟨[(V.ints .u8 32 a), (V.ptr 3 0), (V.bool false), (V.ptr 4 0), (V.bool (canO a)), (V.ptr 5 0), (V.int .i64 (subI .i64 i 1)), (V.tup [(V.ints .i8 64 (digO a)), (V.bool (canO a))]), (V.ints .u8 32 a), (V.tup [(V.ints .i8 64 (digO a)), (V.bool (canO a))]), (V.ints .i8 64 (digO a)), (V.bool (canO a)), (V.int .i64 i), (V.bool (decide (i ≥ 0))), (V.int .i64 i), (V.int .i64 (subI .i64 i 1)), (V.int .i64 i), (V.ptr 4 (0 + (Int.toNat i * 1))), (V.int .i8 ((digO a) (0 + (Int.toNat i * 1)))), (V.bool (decide (((digO a) (0 + (Int.toNat i * 1))) < (-8)))), (V.bool false), (V.int .i64 i), (V.ptr 4 (0 + (Int.toNat i * 1))), (V.int .i8 ((digO a) (0 + (Int.toNat i * 1)))), (V.bool (decide (((digO a) (0 + (Int.toNat i * 1))) > 7))), (V.bool (decide (((digO a) (0 + (Int.toNat i * 1))) > 7))), (V.bool false), (V.bool (canO a)), (V.bool (!(canO a))), (V.bool true), (V.int .i64 i), (V.ptr 4 (0 + (Int.toNat i * 1))), (V.int .i8 ((digO a) (0 + (Int.toNat i * 1)))), (V.bool (((digO a) (0 + (Int.toNat i * 1))) != 0)), (V.bool (((digO a) (0 + (Int.toNat i * 1))) != 0)), (V.bool (((digO a) (0 + (Int.toNat i * 1))) != 0)), (V.ints .u8 32 q), (V.ints .u8 32 (up 0 16 (fun _ => 0))), (V.ints .u8 32 (mulO q (up 0 16 (fun _ => 0)))), (V.int .i64 i), (V.ptr 4 (0 + (Int.toNat i * 1))), (V.int .i8 ((digO a) (0 + (Int.toNat i * 1)))), (V.bool (decide (((digO a) (0 + (Int.toNat i * 1))) ≥ 0))), (V.ints .u8 32 (mulO q (up 0 16 (fun _ => 0)))), (V.int .i64 i), (V.ptr 4 (0 + (Int.toNat i * 1))), (V.int .i8 ((digO a) (0 + (Int.toNat i * 1)))), (V.int .u8 (IntKind.wrap .u8 ((digO a) (0 + (Int.toNat i * 1))))), (V.ints .u8 32 (up 0 (IntKind.wrap .u8 ((digO a) (0 + (Int.toNat i * 1)))) (fun _ => 0))), (V.ints .u8 32 (addO (mulO q (up 0 16 (fun _ => 0))) (up 0 (IntKind.wrap .u8 ((digO a) (0 + (Int.toNat i * 1)))) (fun _ => 0)))), t50, t51, t52, t53, t54, t55, t56, t57, V.un, V.un, V.un, V.un, V.un, V.un, V.un, V.un, V.un, V.un, V.un, V.un, V.un, V.un, V.un], [(V.tup [V.fn 2, (V.ints .u64 4 ordF)]), (V.tup [V.fn 0, (V.ints .u8 32 oneF)]), (V.tup [V.fn 3, (V.ints .u8 32 twoF)]), (V.ints .u8 32 a), (V.ints .i8 64 (digO a)), (V.ints .u8 32 (addO (mulO q (up 0 16 (fun _ => 0))) (up 0 (IntKind.wrap .u8 ((digO a) (0 + (Int.toNat i * 1)))) (fun _ => 0))))]⟩))) (gB (decide (0 ≤ i ∧ i < 64)) (gB (Nat.blt (0 + (Int.toNat i * 1)) 64) (lp (awp Tryd.prog p13 noG 300 (loopOf (body Tryd.f11))) Q m ⟨[(V.ints .u8 32 a), (V.ptr 3 0), (V.bool false), (V.ptr 4 0), (V.bool (canO a)), (V.ptr 5 0), (V.int .i64 (subI .i64 i 1)), (V.tup [(V.ints .i8 64 (digO a)), (V.bool (canO a))]), (V.ints .u8 32 a), (V.tup [(V.ints .i8 64 (digO a)), (V.bool (canO a))]), (V.ints .i8 64 (digO a)), (V.bool (canO a)), (V.int .i64 i), (V.bool (decide (i ≥ 0))), (V.int .i64 i), (V.int .i64 (subI .i64 i 1)), (V.int .i64 i), (V.ptr 4 (0 + (Int.toNat i * 1))), (V.int .i8 ((digO a) (0 + (Int.toNat i * 1)))), (V.bool (decide (((digO a) (0 + (Int.toNat i * 1))) < (-8)))), (V.bool false), (V.int .i64 i), (V.ptr 4 (0 + (Int.toNat i * 1))), (V.int .i8 ((digO a) (0 + (Int.toNat i * 1)))), (V.bool (decide (((digO a) (0 + (Int.toNat i * 1))) > 7))), (V.bool (decide (((digO a) (0 + (Int.toNat i * 1))) > 7))), (V.bool false), (V.bool (canO a)), (V.bool (!(canO a))), (V.bool true), (V.int .i64 i), (V.ptr 4 (0 + (Int.toNat i * 1))), (V.int .i8 ((digO a) (0 + (Int.toNat i * 1)))), (V.bool (((digO a) (0 + (Int.toNat i * 1))) != 0)), (V.bool (((digO a) (0 + (Int.toNat i * 1))) != 0)), (V.bool (((digO a) (0 + (Int.toNat i * 1))) != 0)), (V.ints .u8 32 q), (V.ints .u8 32 (up 0 16 (fun _ => 0))), (V.ints .u8 32 (mulO q (up 0 16 (fun _ => 0)))), (V.int .i64 i), (V.ptr 4 (0 + (Int.toNat i * 1))), (V.int .i8 ((digO a) (0 + (Int.toNat i * 1)))), (V.bool (decide (((digO a) (0 + (Int.toNat i * 1))) ≥ 0))), t43, t44, t45, t46, t47, t48, t49, (V.ints .u8 32 (mulO q (up 0 16 (fun _ => 0)))), (V.int .i64 i), (V.ptr 4 (0 + (Int.toNat i * 1))), (V.int .i8 ((digO a) (0 + (Int.toNat i * 1)))), (V.int .i8 (subI .i8 0 ((digO a) (0 + (Int.toNat i * 1))))), (V.int .u8 (IntKind.wrap .u8 (subI .i8 0 ((digO a) (0 + (Int.toNat i * 1)))))), (V.ints .u8 32 (up 0 (IntKind.wrap .u8 (subI .i8 0 ((digO a) (0 + (Int.toNat i * 1))))) (fun _ => 0))), (V.ints .u8 32 (addO (mulO q (up 0 16 (fun _ => 0))) (negO (up 0 (IntKind.wrap .u8 (subI .i8 0 ((digO a) (0 + (Int.toNat i * 1))))) (fun _ => 0))))), V.un, V.un, V.un, V.un, V.un, V.un, V.un, V.un, V.un, V.un, V.un, V.un, V.un, V.un, V.un], [(V.tup [V.fn 2, (V.ints .u64 4 ordF)]), (V.tup [V.fn 0, (V.ints .u8 32 oneF)]), (V.tup [V.fn 3, (V.ints .u8 32 twoF)]), (V.ints .u8 32 a), (V.ints .i8 64 (digO a)), (V.ints .u8 32 (addO (mulO q (up 0 16 (fun _ => 0))) (negO (up 0 (IntKind.wrap .u8 (subI .i8 0 ((digO a) (0 + (Int.toNat i * 1))))) (fun _ => 0)))))]⟩))))))))) (gB (decide (0 ≤ i ∧ i < 64)) (gB (Nat.blt (0 + (Int.toNat i * 1)) 64) (mB (decide (((digO a) (0 + (Int.toNat i * 1))) ≥ 0)) (gB (decide (0 ≤ i ∧ i < 64)) (gB (Nat.blt (0 + (Int.toNat i * 1)) 64) (lp (awp Tryd.prog p13 noG 300 (loopOf (body Tryd.f11))) Q m ⟨[(V.ints .u8 32 a), (V.ptr 3 0), (V.bool false), (V.ptr 4 0), (V.bool (canO a)), (V.ptr 5 0), (V.int .i64 (subI .i64 i 1)), (V.tup [(V.ints .i8 64 (digO a)), (V.bool (canO a))]), (V.ints .u8 32 a), (V.tup [(V.ints .i8 64 (digO a)), (V.bool (canO a))]), (V.ints .i8 64 (digO a)), (V.bool (canO a)), (V.int .i64 i), (V.bool (decide (i ≥ 0))), (V.int .i64 i), (V.int .i64 (subI .i64 i 1)), (V.int .i64 i), (V.ptr 4 (0 + (Int.toNat i * 1))), (V.int .i8 ((digO a) (0 + (Int.toNat i * 1)))), (V.bool (decide (((digO a) (0 + (Int.toNat i * 1))) < (-8)))), (V.bool false), (V.int .i64 i), (V.ptr 4 (0 + (Int.toNat i * 1))), (V.int .i8 ((digO a) (0 + (Int.toNat i * 1)))), (V.bool (decide (((digO a) (0 + (Int.toNat i * 1))) > 7))), (V.bool (decide (((digO a) (0 + (Int.toNat i * 1))) > 7))), (V.bool false), (V.bool (canO a)), (V.bool (!(canO a))), (V.bool false), V.un, V.un, V.un, V.un, (V.bool false), (V.bool false), (V.ints .u8 32 q), (V.ints .u8 32 (up 0 16 (fun _ => 0))), (V.ints .u8 32 (mulO q (up 0 16 (fun _ => 0)))), (V.int .i64 i), (V.ptr 4 (0 + (Int.toNat i * 1))), (V.int .i8 ((digO a) (0 + (Int.toNat i * 1)))), (V.bool (decide (((digO a) (0 + (Int.toNat i * 1))) ≥ 0))), (V.ints .u8 32 (mulO q (up 0 16 (fun _ => 0)))), (V.int .i64 i), (V.ptr 4 (0 + (Int.toNat i * 1))), (V.int .i8 ((digO a) (0 + (Int.toNat i * 1)))), (V.int .u8 (IntKind.wrap .u8 ((digO a) (0 + (Int.toNat i * 1))))), (V.ints .u8 32 (up 0 (IntKind.wrap .u8 ((digO a) (0 + (Int.toNat i * 1)))) (fun _ => 0))), (V.ints .u8 32 (addO (mulO q (up 0 16 (fun _ => 0))) (up 0 (IntKind.wrap .u8 ((digO a) (0 + (Int.toNat i * 1)))) (fun _ => 0)))), t50, t51, t52, t53, t54, t55, t56, t57, V.un, V.un, V.un, V.un, V.un, V.un, V.un, V.un, V.un, V.un, V.un, V.un, V.un, V.un, V.un], [(V.tup [V.fn 2, (V.ints .u64 4 ordF)]), (V.tup [V.fn 0, (V.ints .u8 32 oneF)]), (V.tup [V.fn 3, (V.ints .u8 32 twoF)]), (V.ints .u8 32 a), (V.ints .i8 64 (digO a)), (V.ints .u8 32 (addO (mulO q (up 0 16 (fun _ => 0))) (up 0 (IntKind.wrap .u8 ((digO a) (0 + (Int.toNat i * 1)))) (fun _ => 0))))]⟩))) (gB (decide (0 ≤ i ∧ i < 64)) (gB (Nat.blt (0 + (Int.toNat i * 1)) 64) (lp (awp Tryd.prog p13 noG 300 (loopOf (body Tryd.f11))) Q m ⟨[(V.ints .u8 32 a), (V.ptr 3 0), (V.bool false), (V.ptr 4 0), (V.bool (canO a)), (V.ptr 5 0), (V.int .i64 (subI .i64 i 1)), (V.tup [(V.ints .i8 64 (digO a)), (V.bool (canO a))]), (V.ints .u8 32 a), (V.tup [(V.ints .i8 64 (digO a)), (V.bool (canO a))]), (V.ints .i8 64 (digO a)), (V.bool (canO a)), (V.int .i64 i), (V.bool (decide (i ≥ 0))), (V.int .i64 i), (V.int .i64 (subI .i64 i 1)), (V.int .i64 i), (V.ptr 4 (0 + (Int.toNat i * 1))), (V.int .i8 ((digO a) (0 + (Int.toNat i * 1)))), (V.bool (decide (((digO a) (0 + (Int.toNat i * 1))) < (-8)))), (V.bool false), (V.int .i64 i), (V.ptr 4 (0 + (Int.toNat i * 1))), (V.int .i8 ((digO a) (0 + (Int.toNat i * 1)))), (V.bool (decide (((digO a) (0 + (Int.toNat i * 1))) > 7))), (V.bool (decide (((digO a) (0 + (Int.toNat i * 1))) > 7))), (V.bool false), (V.bool (canO a)), (V.bool (!(canO a))), (V.bool false), V.un, V.un, V.un, V.un, (V.bool false), (V.bool false), (V.ints .u8 32 q), (V.ints .u8 32 (up 0 16 (fun _ => 0))), (V.ints .u8 32 (mulO q (up 0 16 (fun _ => 0)))), (V.int .i64 i), (V.ptr 4 (0 + (Int.toNat i * 1))), (V.int .i8 ((digO a) (0 + (Int.toNat i * 1)))), (V.bool (decide (((digO a) (0 + (Int.toNat i * 1))) ≥ 0))), t43, t44, t45, t46, t47, t48, t49, (V.ints .u8 32 (mulO q (up 0 16 (fun _ => 0)))), (V.int .i64 i), (V.ptr 4 (0 + (Int.toNat i * 1))), (V.int .i8 ((digO a) (0 + (Int.toNat i * 1)))), (V.int .i8 (subI .i8 0 ((digO a) (0 + (Int.toNat i * 1))))), (V.int .u8 (IntKind.wrap .u8 (subI .i8 0 ((digO a) (0 + (Int.toNat i * 1)))))), (V.ints .u8 32 (up 0 (IntKind.wrap .u8 (subI .i8 0 ((digO a) (0 + (Int.toNat i * 1))))) (fun _ => 0))), (V.ints .u8 32 (addO (mulO q (up 0 16 (fun _ => 0))) (negO (up 0 (IntKind.wrap .u8 (subI .i8 0 ((digO a) (0 + (Int.toNat i * 1))))) (fun _ => 0))))), V.un, V.un, V.un, V.un, V.un, V.un, V.un, V.un, V.un, V.un, V.un, V.un, V.un, V.un, V.un], [(V.tup [V.fn 2, (V.ints .u64 4 ordF)]), (V.tup [V.fn 0, (V.ints .u8 32 oneF)]), (V.tup [V.fn 3, (V.ints .u8 32 twoF)]), (V.ints .u8 32 a), (V.ints .i8 64 (digO a)), (V.ints .u8 32 (addO (mulO q (up 0 16 (fun _ => 0))) (negO (up 0 (IntKind.wrap .u8 (subI .i8 0 ((digO a) (0 + (Int.toNat i * 1))))) (fun _ => 0)))))]⟩))))))))))))) (Q (.exit 0) ⟨[(V.ints .u8 32 a), (V.ptr 3 0), (V.bool false), (V.ptr 4 0), (V.bool (canO a)), (V.ptr 5 0), (V.int .i64 i), (V.tup [(V.ints .i8 64 (digO a)), (V.bool (canO a))]), (V.ints .u8 32 a), (V.tup [(V.ints .i8 64 (digO a)), (V.bool (canO a))]), (V.ints .i8 64 (digO a)), (V.bool (canO a)), (V.int .i64 i), (V.bool (decide (i ≥ 0))), t14, t15, t16, t17, t18, t19, t20, t21, t22, t23, t24, t25, t26, t27, t28, t29, t30, t31, t32, t33, t34, t35, t36, t37, t38, t39, t40, t41, t42, t43, t44, t45, t46, t47, t48, t49, t50, t51, t52, t53, t54, t55, t56, t57, V.un, V.un, V.un, V.un, V.un, V.un, V.un, V.un, V.un, V.un, V.un, V.un, V.un, V.un, V.un], [(V.tup [V.fn 2, (V.ints .u64 4 ordF)]), (V.tup [V.fn 0, (V.ints .u8 32 oneF)]), (V.tup [V.fn 3, (V.ints .u8 32 twoF)]), (V.ints .u8 32 a), (V.ints .i8 64 (digO a)), (V.ints .u8 32 q)]⟩)) := by kernel_rfl
theorem dgb_xr (a : Nat → Int) (i : Int) (q : Nat → Int) (t12 t13 t14 t15 t16 t17 t18 t19 t20 t21 t22 t23 t24 t25 t26 t27 t28 t29 t30 t31 t32 t33 t34 t35 t36 t37 t38 t39 t40 t41 t42 t43 t44 t45 t46 t47 t48 t49 t50 t51 t52 t53 t54 t55 t56 t57 : V) (R : V) : spineQ Tryd.prog p13 noG 300 (body Tryd.f11) (ends Tryd.prog Tryd.f11 fun v _ => okV R v) .ret ⟨[(V.ints .u8 32 a), (V.ptr 3 0), (V.bool false), (V.ptr 4 0), (V.bool (canO a)), (V.ptr 5 0), (V.int .i64 i), (V.tup [(V.ints .i8 64 (digO a)), (V.bool (canO a))]), (V.ints .u8 32 a), (V.tup [(V.ints .i8 64 (digO a)), (V.bool (canO a))]), (V.ints .i8 64 (digO a)), (V.bool (canO a)), t12, t13, t14, t15, t16, t17, t18, t19, t20, t21, t22, t23, t24, t25, t26, t27, t28, t29, t30, t31, t32, t33, t34, t35, t36, t37, t38, t39, t40, t41, t42, t43, t44, t45, t46, t47, t48, t49, t50, t51, t52, t53, t54, t55, t56, t57, V.un, V.un, V.un, V.un, V.un, V.un, V.un, V.un, V.un, V.un, V.un, V.un, V.un, V.un, V.un], [(V.tup [V.fn 2, (V.ints .u64 4 ordF)]), (V.tup [V.fn 0, (V.ints .u8 32 oneF)]), (V.tup [V.fn 3, (V.ints .u8 32 twoF)]), (V.ints .u8 32 a), (V.ints .i8 64 (digO a)), (V.ints .u8 32 q)]⟩ = (okV R (V.bool false)) := by kernel_rfl
theorem dgb_x (a : Nat → Int) (i : Int) (q : Nat → Int) (t12 t13 t14 t15 t16 t17 t18 t19 t20 t21 t22 t23 t24 t25 t26 t27 t28 t29 t30 t31 t32 t33 t34 t35 t36 t37 t38 t39 t40 t41 t42 t43 t44 t45 t46 t47 t48 t49 t50 t51 t52 t53 t54 t55 t56 t57 : V) (R : V) : spineQ Tryd.prog p13 noG 300 (body Tryd.f11) (ends Tryd.prog Tryd.f11 fun v _ => okV R v) (.exit 0) ⟨[(V.ints .u8 32 a), (V.ptr 3 0), (V.bool false), (V.ptr 4 0), (V.bool (canO a)), (V.ptr 5 0), (V.int .i64 i), (V.tup [(V.ints .i8 64 (digO a)), (V.bool (canO a))]), (V.ints .u8 32 a), (V.tup [(V.ints .i8 64 (digO a)), (V.bool (canO a))]), (V.ints .i8 64 (digO a)), (V.bool (canO a)), t12, t13, t14, t15, t16, t17, t18, t19, t20, t21, t22, t23, t24, t25, t26, t27, t28, t29, t30, t31, t32, t33, t34, t35, t36, t37, t38, t39, t40, t41, t42, t43, t44, t45, t46, t47, t48, t49, t50, t51, t52, t53, t54, t55, t56, t57, V.un, V.un, V.un, V.un, V.un, V.un, V.un, V.un, V.un, V.un, V.un, V.un, V.un, V.un, V.un], [(V.tup [V.fn 2, (V.ints .u64 4 ordF)]), (V.tup [V.fn 0, (V.ints .u8 32 oneF)]), (V.tup [V.fn 3, (V.ints .u8 32 twoF)]), (V.ints .u8 32 a), (V.ints .i8 64 (digO a)), (V.ints .u8 32 q)]⟩ = (mB (!((canO a) == (canO a))) (okV R (V.bool false)) (mB (!(canO a)) (okV R (V.bool true)) (okV R (V.bool (eqN 32 q a))))) := by kernel_rfl
/-- What the law has made of the digits from 63 down: behind k of them. -/
def dgS (d : Nat → Int) : Nat → Int
  | 0 => 0
  | k + 1 => 16 * dgS d k + d (63 - k)
theorem dgS_v (d : Nat → Int) : ∀ k, k ≤ 64 → dgS d k = dv 16 k (fun j => d (64 - k + j))
  | 0, _ => rfl
  | k + 1, hk => by
    rw [dgS, dgS_v d k (by omega), dv]
    rw [show 64 - (k + 1) + 0 = 63 - k by omega]
    rw [show (fun j => d (64 - k + j)) = (fun i => d (64 - (k + 1) + (i + 1))) from funext fun i => by congr 1; omega]
    omega
theorem num16 : num (up 0 16 (fun _ => 0)) = 16 := num_up (by omega) (by omega)
theorem dig_round {d S : Int} {q : Nat → Int} (hq : q = stF (S % LL)) (h0 : -8 ≤ d) (h1 : d ≤ 7) :
    (decide (d ≥ 0) = true → addO (mulO q (up 0 16 (fun _ => 0))) (up 0 (IntKind.wrap .u8 d) (fun _ => 0)) = stF ((16 * S + d) % LL)) ∧
    (decide (d ≥ 0) = false → addO (mulO q (up 0 16 (fun _ => 0))) (negO (up 0 (IntKind.wrap .u8 (subI .i8 0 d)) (fun _ => 0))) = stF ((16 * S + d) % LL)) := by
  have hn : num q = S % LL := by rw [hq]; exact num_mod S
  refine ⟨fun h => ?_, fun h => ?_⟩
  · have h := of_decide_eq_true h
    have hw : IntKind.wrap .u8 d = d := by rw [wrap_u8]; omega
    have hu : num (up 0 d (fun _ => 0)) = d := num_up (by omega) (by omega)
    rw [hw, add_st, num_add, num_mul, hn, num16, hu, ma, ea, Int.mul_comm]
  · have h := of_decide_eq_false h
    have hs : subI .i8 0 d = -d := by unfold subI; rw [IntWalk.i8_in _ (by omega)]; omega
    have hw : IntKind.wrap .u8 (-d) = -d := by rw [wrap_u8]; omega
    have hu : num (up 0 (-d) (fun _ => 0)) = -d := num_up (by omega) (by omega)
    rw [hs, hw, add_st, num_add, num_mul, num_neg, hn, num16, hu, ma, ea, eb, Int.neg_neg, Int.mul_comm]
theorem dgb_l {a : Nat → Int} (ha : By 32 a) : ∀ (k m : Nat) (q : Nat → Int), k ≤ 64 → k + 1 ≤ m → q = stF (dgS (digO a) (64 - k) % LL) → ∀ (t12 t13 t14 t15 t16 t17 t18 t19 t20 t21 t22 t23 t24 t25 t26 t27 t28 t29 t30 t31 t32 t33 t34 t35 t36 t37 t38 t39 t40 t41 t42 t43 t44 t45 t46 t47 t48 t49 t50 t51 t52 t53 t54 t55 t56 t57 : V),
    lp (awp Tryd.prog p13 noG 300 (loopOf (body Tryd.f11))) (spineQ Tryd.prog p13 noG 300 (body Tryd.f11) (ends Tryd.prog Tryd.f11 fun v _ => okV (V.bool true) v)) m ⟨[(V.ints .u8 32 a), (V.ptr 3 0), (V.bool false), (V.ptr 4 0), (V.bool (canO a)), (V.ptr 5 0), (V.int .i64 ((k : Int) - 1)), (V.tup [(V.ints .i8 64 (digO a)), (V.bool (canO a))]), (V.ints .u8 32 a), (V.tup [(V.ints .i8 64 (digO a)), (V.bool (canO a))]), (V.ints .i8 64 (digO a)), (V.bool (canO a)), t12, t13, t14, t15, t16, t17, t18, t19, t20, t21, t22, t23, t24, t25, t26, t27, t28, t29, t30, t31, t32, t33, t34, t35, t36, t37, t38, t39, t40, t41, t42, t43, t44, t45, t46, t47, t48, t49, t50, t51, t52, t53, t54, t55, t56, t57, V.un, V.un, V.un, V.un, V.un, V.un, V.un, V.un, V.un, V.un, V.un, V.un, V.un, V.un, V.un], [(V.tup [V.fn 2, (V.ints .u64 4 ordF)]), (V.tup [V.fn 0, (V.ints .u8 32 oneF)]), (V.tup [V.fn 3, (V.ints .u8 32 twoF)]), (V.ints .u8 32 a), (V.ints .i8 64 (digO a)), (V.ints .u8 32 q)]⟩
  | 0, m, q, _, hm, hq, t12, t13, t14, t15, t16, t17, t18, t19, t20, t21, t22, t23, t24, t25, t26, t27, t28, t29, t30, t31, t32, t33, t34, t35, t36, t37, t38, t39, t40, t41, t42, t43, t44, t45, t46, t47, t48, t49, t50, t51, t52, t53, t54, t55, t56, t57 => by
    obtain ⟨m, rfl⟩ : ∃ z, m = z + 1 := ⟨m - 1, by omega⟩
    rw [dgb_s]
    refine mBt (fun h => absurd (of_decide_eq_true h) (by omega)) (fun _ => ?_)
    rw [dgb_x]
    refine mBt (fun h => by simp at h) (fun _ => mBt (fun _ => okV_refl rfl) (fun h => ?_))
    have h : canO a = true := by simpa using h
    have e : eqN 32 q a = true := by
      refine eqN_mk fun j hj => ?_
      rw [hq, dgS_v _ 64 (Nat.le_refl _), digO_eq]
      simp only [h, cond_true, Nat.sub_self, Nat.zero_add]
      have hs := (dig_sum ha h).1
      rw [show (fun j => dgF a 64 j) = dgF a 64 from rfl, hs]
      rw [can_iff] at h
      rw [Int.emod_eq_of_lt (num_nn a).1 (of_decide_eq_true h)]
      exact st_bytes ha j hj
    rw [e]
    exact okV_refl rfl
  | k + 1, m, q, hk, hm, hq, t12, t13, t14, t15, t16, t17, t18, t19, t20, t21, t22, t23, t24, t25, t26, t27, t28, t29, t30, t31, t32, t33, t34, t35, t36, t37, t38, t39, t40, t41, t42, t43, t44, t45, t46, t47, t48, t49, t50, t51, t52, t53, t54, t55, t56, t57 => by
    obtain ⟨m, rfl⟩ : ∃ z, m = z + 1 := ⟨m - 1, by omega⟩
    have e1 : (((k + 1 : Nat) : Int) - 1) = (k : Int) := by omega
    rw [e1, dgb_s]
    have g1 : decide (0 ≤ (k : Int) ∧ (k : Int) < 64) = true := decide_eq_true (by omega)
    have g2 : Nat.blt (0 + (Int.toNat (k : Int) * 1)) 64 = true := by rw [Int.toNat_natCast]; exact bltT.2 (by omega)
    have hnx : subI .i64 (k : Int) 1 = (k : Int) - 1 := sub1_nat k (by omega)
    have hix : (0 + (Int.toNat (k : Int) * 1)) = k := by rw [Int.toNat_natCast]; omega
    have hd : -8 ≤ digO a k ∧ digO a k ≤ 7 := by
      rw [digO_eq]
      dsimp only
      cases h : canO a with
      | true => exact (dig_sum ha h).2 k (by omega)
      | false => exact ⟨by show (-8 : Int) ≤ 0; omega, by show (0 : Int) ≤ 7; omega⟩
    have hz : canO a = false → digO a k = 0 := by intro h; rw [digO_eq]; simp only [h, cond_false]
    have hr := dig_round hq hd.1 hd.2
    have hS : 16 * dgS (digO a) (64 - (k + 1)) + digO a k = dgS (digO a) (64 - k) := by
      rw [show 64 - k = 64 - (k + 1) + 1 by omega, dgS, show 63 - (64 - (k + 1)) = k by omega]
    rw [hS] at hr
    rw [hix] at g2
    rw [hix]
    refine mBt (fun _ => ?_) (fun h => absurd (of_decide_eq_false h) (by omega))
    refine gm g1 (gm g2 (mBt (fun h => absurd (of_decide_eq_true h) (by omega)) (fun _ => ?_)))
    refine gm g1 (gm g2 (mBt (fun h => absurd (of_decide_eq_true h) (by omega)) (fun _ => ?_)))
    refine mBt (fun hc => ?_) (fun hc => ?_)
    · have hc : canO a = false := by simpa using hc
      refine gm g1 (gm g2 (mBt (fun h => by rw [hz hc] at h; simp at h) (fun _ => ?_)))
      refine gm g1 (gm g2 (mBt (fun h => gm g1 (gm g2 ?_)) (fun h => gm g1 (gm g2 ?_))))
      · rw [hnx]
        exact dgb_l ha k m _ (by omega) (by omega) (hr.1 h) _ _ _ _ _ _ _ _ _ _ _ _ _ _ _ _ _ _ _ _ _ _ _ _ _ _ _ _ _ _ _ _ _ _ _ _ _ _ _ _ _ _ _ _ _ _
      · rw [hnx]
        exact dgb_l ha k m _ (by omega) (by omega) (hr.2 h) _ _ _ _ _ _ _ _ _ _ _ _ _ _ _ _ _ _ _ _ _ _ _ _ _ _ _ _ _ _ _ _ _ _ _ _ _ _ _ _ _ _ _ _ _ _
    · refine gm g1 (gm g2 (mBt (fun h => gm g1 (gm g2 ?_)) (fun h => gm g1 (gm g2 ?_))))
      · rw [hnx]
        exact dgb_l ha k m _ (by omega) (by omega) (hr.1 h) _ _ _ _ _ _ _ _ _ _ _ _ _ _ _ _ _ _ _ _ _ _ _ _ _ _ _ _ _ _ _ _ _ _ _ _ _ _ _ _ _ _ _ _ _ _
      · rw [hnx]
        exact dgb_l ha k m _ (by omega) (by omega) (hr.2 h) _ _ _ _ _ _ _ _ _ _ _ _ _ _ _ _ _ _ _ _ _ _ _ _ _ _ _ _ _ _ _ _ _ _ _ _ _ _ _ _ _ _ _ _ _ _
theorem lawDigitsBack_a {a : Nat → Int} (ha : By 32 a) : awp Tryd.prog p13 noG 300 (body Tryd.f11) (ends Tryd.prog Tryd.f11 fun v _ => okV (V.bool true) v) ⟨[V.ints .u8 32 a] ++ List.replicate 72 V.un, [(V.tup [V.fn 2, (V.ints .u64 4 ordF)]), (V.tup [V.fn 0, (V.ints .u8 32 oneF)]), (V.tup [V.fn 3, (V.ints .u8 32 twoF)])]⟩ := by
  rw [dgb_h]
  have := dgb_l ha 64 300 (fun _ => 0) (Nat.le_refl _) (by omega) (by rw [Nat.sub_self]; exact st_zero.symm) V.un V.un V.un V.un V.un V.un V.un V.un V.un V.un V.un V.un V.un V.un V.un V.un V.un V.un V.un V.un V.un V.un V.un V.un V.un V.un V.un V.un V.un V.un V.un V.un V.un V.un V.un V.un V.un V.un V.un V.un V.un V.un V.un V.un V.un V.un
  rw [show (((64 : Nat) : Int) - 1) = 63 by decide] at this
  exact this
end Go.Proofs.YtnoehjibponofaaDoor
