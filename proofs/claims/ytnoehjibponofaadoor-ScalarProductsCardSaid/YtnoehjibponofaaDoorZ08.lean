/-
  A part of the groundwork of this seat's claims: an evaluator over the program, walks, and plain mathematics. Conditions: none.
-/
import Derived.Test.YtnoehjibponofaaDoorZ07
/-
  The document's Product: a contract. Conditions: none.
-/
namespace Go.Proofs.YtnoehjibponofaaDoor
open Go.Ev Go.Num
def prD (a o b c : Int) : Int := addI .i64 (addI .i64 o (mulI .i64 a b)) c
def pin (a : Int) (yf : Nat → Int) (i : Nat) (hh : Nat → Int) : Nat → (Nat → Int) × Int
  | 0 => (hh, 0)
  | k + 1 => (up (i + k) (remI (prD a ((pin a yf i hh k).1 (i + k)) (yf k) (pin a yf i hh k).2) 256) (pin a yf i hh k).1, quoI .i64 (prD a ((pin a yf i hh k).1 (i + k)) (yf k) (pin a yf i hh k).2) 256)
def prdR (xf yf : Nat → Int) : Nat → (Nat → Int)
  | 0 => fun _ => 0
  | i + 1 => up (i + 32) (pin (xf i) yf i (prdR xf yf i) 32).2 (pin (xf i) yf i (prdR xf yf i) 32).1
def Bd (a : Int) : Prop := 0 ≤ a ∧ a < 256
theorem prD_v {a o b c : Int} (ha : Bd a) (ho : Bd o) (hb : Bd b) (hc : Bd c) : prD a o b c = o + a * b + c ∧ 0 ≤ o + a * b + c ∧ o + a * b + c < 65536 := by
  have h1 := Int.mul_nonneg ha.1 hb.1
  have h2 : a * b ≤ 255 * 255 := Int.mul_le_mul (by have := ha.2; omega) (by have := hb.2; omega) hb.1 (by omega)
  obtain ⟨o1, o2⟩ := ho; obtain ⟨c1, c2⟩ := hc
  unfold prD
  have e : mulI .i64 a b = a * b := by unfold mulI; rw [wrap_i64 _ (by omega)]
  rw [e, add64 (a := o) (by omega) (by omega), add64 (by omega) (by omega)]
  omega
theorem pin_v {a : Int} {yf hh : Nat → Int} {i : Nat} (ha : Bd a) (hy : By 32 yf) (hh0 : ∀ j, Bd (hh j)) : ∀ k, k ≤ 32 →
    (∀ j, Bd ((pin a yf i hh k).1 j)) ∧ Bd (pin a yf i hh k).2 ∧ (∀ j, i + k ≤ j → (pin a yf i hh k).1 j = hh j) ∧
    dv 256 (i + k) (pin a yf i hh k).1 + pw 256 (i + k) * (pin a yf i hh k).2 = dv 256 (i + k) hh + a * dv 256 k yf * pw 256 i
  | 0, _ => ⟨hh0, ⟨by show (0 : Int) ≤ 0; omega, by show (0 : Int) < 256; omega⟩, fun _ _ => rfl, by simp [pin, dv]⟩
  | k + 1, hk => by
    obtain ⟨h1, h2, h3, h4⟩ := pin_v (i := i) ha hy hh0 k (by omega)
    obtain ⟨e, e0, e1⟩ := prD_v ha (h1 (i + k)) (hy k (by omega)) h2
    simp only [pin, e]
    rw [rem256 e0, quo256 e0 e1]
    generalize (pin a yf i hh k).2 = c at *
    generalize hP : (pin a yf i hh k).1 = p at *
    refine ⟨fun j => ?_, ⟨by omega, by omega⟩, fun j hj => ?_, ?_⟩
    · by_cases hj : j = i + k
      · rw [hj, up_same]; exact ⟨by omega, by omega⟩
      · rw [up_ne _ _ hj]; exact h1 j
    · rw [up_ne _ _ (by omega)]; exact h3 j (by omega)
    · rw [← Nat.add_assoc, dv_top, dv_top, dv_top, up_same, dv_congr (b := p) fun j hj => up_ne _ _ (by omega), ← h3 (i + k) (Nat.le_refl _), pw]
      have ce := carry_eq (pw 256 (i + k)) (p (i + k) + a * yf k + c)
      have e3 : pw 256 (i + k) = pw 256 k * pw 256 i := by rw [pw_eq, pw_eq, pw_eq, Int.pow_add, Int.mul_comm]
      rw [Int.mul_add, Int.mul_add] at ce
      have e4 : a * (dv 256 k yf + pw 256 k * yf k) * pw 256 i = a * dv 256 k yf * pw 256 i + pw 256 (i + k) * (a * yf k) := by rw [e3]; grind
      rw [e4]
      omega
theorem prd_v {xf yf : Nat → Int} (hx : By 32 xf) (hy : By 32 yf) : ∀ i, i ≤ 32 → (∀ j, Bd (prdR xf yf i j)) ∧ (∀ j, i + 32 ≤ j → prdR xf yf i j = 0) ∧ dv 256 (i + 32) (prdR xf yf i) = dv 256 i xf * dv 256 32 yf
  | 0, _ => ⟨fun j => ⟨by show (0 : Int) ≤ 0; omega, by show (0 : Int) < 256; omega⟩, fun _ _ => rfl, by
    show dv 256 (0 + 32) (fun _ => 0) = _
    rw [dv_zero]; simp [dv]⟩
  | i + 1, hi => by
    obtain ⟨h1, h2, h3⟩ := prd_v hx hy i (by omega)
    obtain ⟨p1, p2, p3, p4⟩ := pin_v (i := i) (hx i (by omega)) hy h1 32 (Nat.le_refl _)
    simp only [prdR]
    refine ⟨fun j => ?_, fun j hj => ?_, ?_⟩
    · by_cases hj : j = i + 32
      · rw [hj, up_same]; exact p2
      · rw [up_ne _ _ hj]; exact p1 j
    · rw [up_ne _ _ (by omega), p3 j (by omega)]; exact h2 j (by omega)
    · rw [show i + 1 + 32 = i + 32 + 1 by omega, dv_top, up_same, dv_congr (b := (pin (xf i) yf i (prdR xf yf i) 32).1) fun j hj => up_ne _ _ (by omega), p4, h3]
      generalize dv 256 32 yf = Y
      rw [dv_top, Int.add_mul]
      congr 1
      rw [Int.mul_comm (pw 256 i), Int.mul_assoc, Int.mul_assoc, Int.mul_comm Y]
noncomputable def prdO : (Nat → Int) → (Nat → Int) → Nat → Int := Classical.choose (hide_ex fun x y => stF (dv 256 32 x * dv 256 32 y))
theorem prdO_eq : prdO = fun x y => stF (dv 256 32 x * dv 256 32 y) := Classical.choose_spec (hide_ex fun x y => stF (dv 256 32 x * dv 256 32 y))
noncomputable def prdD (xf yf : Nat → Int) : Made := ⟨.i64, 64, prdO xf yf, fun id cap => .sl id 0 64 cap⟩
theorem st_64 {v : Int} (h0 : 0 ≤ v) (h1 : v < 256 ^ 64) : Nm 64 (stF v) v := by
  refine ⟨by_stF _ 64, ?_⟩
  have := dv_digits (B := 256) (by omega) (n := 64) (N := v)
  rw [Int.emod_eq_of_lt h0 h1] at this
  exact this
theorem prd_bound {xf yf : Nat → Int} (hx : By 32 xf) (hy : By 32 yf) : 0 ≤ dv 256 32 xf * dv 256 32 yf ∧ dv 256 32 xf * dv 256 32 yf < 256 ^ 64 := by
  have h := (prd_v hx hy 32 (Nat.le_refl _))
  have hb := dv_bound (B := 256) (by omega) (n := 64) (a := prdR xf yf 32) fun j _ => h.1 j
  have h3 := h.2.2
  rw [show 32 + 32 = 64 from rfl] at h3
  rw [h3, pw_eq] at hb
  exact hb
theorem prd_has {xf yf : Nat → Int} (hx : By 32 xf) (hy : By 32 yf) : ∀ j, j < 64 → prdR xf yf 32 j = prdO xf yf j := by
  obtain ⟨h1, h2, h3⟩ := prd_v hx hy 32 (Nat.le_refl _)
  have hb := prd_bound hx hy
  rw [prdO_eq]
  exact dv_inj (B := 256) (by omega) (fun j _ => h1 j) (by_stF _ 64) (h3.trans (st_64 hb.1 hb.2).2.symm)
theorem prd_h (ex xc ey yc : Nat) (xf yf : Nat → Int) (N : Nat) (d : Made) : awq Tryd.prog o58 noG 2 N (body Tryd.f49) (ends Tryd.prog Tryd.f49 fun v m => madeK d v m) ⟨[(V.sl 0 0 32 xc), (V.sl 1 0 32 yc)] ++ List.replicate 61 V.un, [(V.tup [(V.ints .i64 (ex + 32) xf)]), (V.tup [(V.ints .i64 (ey + 32) yf)])]⟩ = ((lpW 2 (awp Tryd.prog o58 noG N (loopOf (body Tryd.f49)))) (spineW Tryd.prog o58 noG 2 N (body Tryd.f49) (ends Tryd.prog Tryd.f49 fun v m => madeK d v m)) N ⟨[(V.sl 0 0 32 xc), (V.sl 1 0 32 yc), V.un, V.un, V.snil, (V.sl 2 0 64 64), (V.int .i64 0), V.un, V.un, V.un, (V.sl 0 0 32 xc), (V.int .i64 32), (V.sl 1 0 32 yc), (V.int .i64 32), (V.int .i64 64), (V.sl 2 0 64 64), V.un, V.un, V.un, V.un, V.un, V.un, V.un, V.un, V.un, V.un, V.un, V.un, V.un, V.un, V.un, V.un, V.un, V.un, V.un, V.un, V.un, V.un, V.un, V.un, V.un, V.un, V.un, V.un, V.un, V.un, V.un, V.un, V.un, V.un, V.un, V.un, V.un, V.un, V.un, V.un, V.un, V.un, V.un, V.un, V.un, V.un, V.un], [(V.tup [(V.ints .i64 (ex + 32) xf)]), (V.tup [(V.ints .i64 (ey + 32) yf)]), (V.ints .i64 64 (fun _ => 0))]⟩) := by kernel_rfl
theorem prd_bo (ex xc ey yc : Nat) (xf yf : Nat → Int) (i : Int) (hh : Nat → Int) (t7 t8 t9 t16 t17 t18 t19 t20 t21 t22 t23 t24 t25 t26 t27 t28 t29 t30 t31 t32 t33 t34 t35 t36 t37 t38 t39 t40 t41 t42 t43 t44 t45 t46 t47 t48 t49 t50 t51 t52 t53 t54 t55 t56 t57 t58 t59 t60 t61 : V) (N : Nat) (Q : Exit → St → Prop) (m : Nat) : (lpW 2 (awp Tryd.prog o58 noG N (loopOf (body Tryd.f49)))) Q (m + 1) ⟨[(V.sl 0 0 32 xc), (V.sl 1 0 32 yc), V.un, V.un, V.snil, (V.sl 2 0 64 64), (V.int .i64 i), t7, t8, t9, (V.sl 0 0 32 xc), (V.int .i64 32), (V.sl 1 0 32 yc), (V.int .i64 32), (V.int .i64 64), (V.sl 2 0 64 64), t16, t17, t18, t19, t20, t21, t22, t23, t24, t25, t26, t27, t28, t29, t30, t31, t32, t33, t34, t35, t36, t37, t38, t39, t40, t41, t42, t43, t44, t45, t46, t47, t48, t49, t50, t51, t52, t53, t54, t55, t56, t57, t58, t59, t60, t61, V.un], [(V.tup [(V.ints .i64 (ex + 32) xf)]), (V.tup [(V.ints .i64 (ey + 32) yf)]), (V.ints .i64 64 hh)]⟩ = (mB (decide (i < 32)) ((lp (awp Tryd.prog o58 noG N (loopOf (loopOf (body Tryd.f49))))) (spineQ Tryd.prog o58 noG N (loopOf (body Tryd.f49)) (nxt 2 (awp Tryd.prog o58 noG N (loopOf (body Tryd.f49))) Q m)) N ⟨[(V.sl 0 0 32 xc), (V.sl 1 0 32 yc), V.un, V.un, V.snil, (V.sl 2 0 64 64), (V.int .i64 i), (V.int .i64 0), (V.int .i64 0), t9, (V.sl 0 0 32 xc), (V.int .i64 32), (V.sl 1 0 32 yc), (V.int .i64 32), (V.int .i64 64), (V.sl 2 0 64 64), (V.int .i64 i), (V.sl 0 0 32 xc), (V.int .i64 32), (V.bool (decide (i < 32))), t20, t21, t22, t23, t24, t25, t26, t27, t28, t29, t30, t31, t32, t33, t34, t35, t36, t37, t38, t39, t40, t41, t42, t43, t44, t45, t46, t47, t48, t49, t50, t51, t52, t53, t54, t55, t56, t57, t58, t59, t60, t61, V.un], [(V.tup [(V.ints .i64 (ex + 32) xf)]), (V.tup [(V.ints .i64 (ey + 32) yf)]), (V.ints .i64 64 hh)]⟩) (Q (.exit 0) ⟨[(V.sl 0 0 32 xc), (V.sl 1 0 32 yc), V.un, V.un, V.snil, (V.sl 2 0 64 64), (V.int .i64 i), t7, t8, t9, (V.sl 0 0 32 xc), (V.int .i64 32), (V.sl 1 0 32 yc), (V.int .i64 32), (V.int .i64 64), (V.sl 2 0 64 64), (V.int .i64 i), (V.sl 0 0 32 xc), (V.int .i64 32), (V.bool (decide (i < 32))), t20, t21, t22, t23, t24, t25, t26, t27, t28, t29, t30, t31, t32, t33, t34, t35, t36, t37, t38, t39, t40, t41, t42, t43, t44, t45, t46, t47, t48, t49, t50, t51, t52, t53, t54, t55, t56, t57, t58, t59, t60, t61, V.un], [(V.tup [(V.ints .i64 (ex + 32) xf)]), (V.tup [(V.ints .i64 (ey + 32) yf)]), (V.ints .i64 64 hh)]⟩)) := by kernel_rfl
theorem prd_bx (ex xc ey yc : Nat) (xf yf : Nat → Int) (i : Int) (hh : Nat → Int) (t7 t8 t9 t16 t17 t18 t19 t20 t21 t22 t23 t24 t25 t26 t27 t28 t29 t30 t31 t32 t33 t34 t35 t36 t37 t38 t39 t40 t41 t42 t43 t44 t45 t46 t47 t48 t49 t50 t51 t52 t53 t54 t55 t56 t57 t58 t59 t60 t61 : V) (d : Made) : (spineW Tryd.prog o58 noG 2 300 (body Tryd.f49) (ends Tryd.prog Tryd.f49 fun v m => madeK d v m)) (.exit 0) ⟨[(V.sl 0 0 32 xc), (V.sl 1 0 32 yc), V.un, V.un, V.snil, (V.sl 2 0 64 64), (V.int .i64 i), t7, t8, t9, (V.sl 0 0 32 xc), (V.int .i64 32), (V.sl 1 0 32 yc), (V.int .i64 32), (V.int .i64 64), (V.sl 2 0 64 64), t16, t17, t18, t19, t20, t21, t22, t23, t24, t25, t26, t27, t28, t29, t30, t31, t32, t33, t34, t35, t36, t37, t38, t39, t40, t41, t42, t43, t44, t45, t46, t47, t48, t49, t50, t51, t52, t53, t54, t55, t56, t57, t58, t59, t60, t61, V.un], [(V.tup [(V.ints .i64 (ex + 32) xf)]), (V.tup [(V.ints .i64 (ey + 32) yf)]), (V.ints .i64 64 hh)]⟩ = ((fun v m => madeK d v m) (V.sl 2 0 64 64) [(V.tup [(V.ints .i64 (ex + 32) xf)]), (V.tup [(V.ints .i64 (ey + 32) yf)]), (V.ints .i64 64 hh)]) := by kernel_rfl
theorem prd_cs (ex xc ey yc : Nat) (xf yf : Nat → Int) (i k q : Int) (g : Nat → Int) (t9 t20 t21 t22 t23 t24 t25 t26 t27 t28 t29 t30 t31 t32 t33 t34 t35 t36 t37 t38 t39 t40 t41 t42 t43 t44 t45 t46 t47 t48 t49 t50 t51 t52 t53 t54 t55 t56 t57 t58 t59 t60 t61 : V) (Q2 : Exit → St → Prop) (m2 : Nat) : (lp (awp Tryd.prog o58 noG 300 (loopOf (loopOf (body Tryd.f49))))) Q2 (m2 + 1) ⟨[(V.sl 0 0 32 xc), (V.sl 1 0 32 yc), V.un, V.un, V.snil, (V.sl 2 0 64 64), (V.int .i64 i), (V.int .i64 q), (V.int .i64 k), t9, (V.sl 0 0 32 xc), (V.int .i64 32), (V.sl 1 0 32 yc), (V.int .i64 32), (V.int .i64 64), (V.sl 2 0 64 64), (V.int .i64 i), (V.sl 0 0 32 xc), (V.int .i64 32), (V.bool (decide (i < 32))), t20, t21, t22, t23, t24, t25, t26, t27, t28, t29, t30, t31, t32, t33, t34, t35, t36, t37, t38, t39, t40, t41, t42, t43, t44, t45, t46, t47, t48, t49, t50, t51, t52, t53, t54, t55, t56, t57, t58, t59, t60, t61, V.un], [(V.tup [(V.ints .i64 (ex + 32) xf)]), (V.tup [(V.ints .i64 (ey + 32) yf)]), (V.ints .i64 64 g)]⟩ = (mB (decide (k < 32)) (gB (decide (0 ≤ (addI .i64 i k) ∧ (addI .i64 i k) < 64)) (gB (Nat.blt (0 + (Int.toNat (addI .i64 i k) * 1)) 64) (gB (decide (0 ≤ i ∧ i < 32)) (gB (Nat.blt (0 + (Int.toNat i * 1)) (ex + 32)) (gB (decide (0 ≤ k ∧ k < 32)) (gB (Nat.blt (0 + (Int.toNat k * 1)) (ey + 32)) (gB (decide (0 ≤ (addI .i64 i k) ∧ (addI .i64 i k) < 64)) (gB (Nat.blt (0 + (Int.toNat (addI .i64 i k) * 1)) 64) ((lp (awp Tryd.prog o58 noG 300 (loopOf (loopOf (body Tryd.f49))))) Q2 m2 ⟨[(V.sl 0 0 32 xc), (V.sl 1 0 32 yc), V.un, V.un, V.snil, (V.sl 2 0 64 64), (V.int .i64 i), (V.int .i64 (quoI .i64 (addI .i64 (addI .i64 (g (0 + (Int.toNat (addI .i64 i k) * 1))) (mulI .i64 (xf (0 + (Int.toNat i * 1))) (yf (0 + (Int.toNat k * 1))))) q) 256)), (V.int .i64 (addI .i64 k 1)), (V.int .i64 (addI .i64 (addI .i64 (g (0 + (Int.toNat (addI .i64 i k) * 1))) (mulI .i64 (xf (0 + (Int.toNat i * 1))) (yf (0 + (Int.toNat k * 1))))) q)), (V.sl 0 0 32 xc), (V.int .i64 32), (V.sl 1 0 32 yc), (V.int .i64 32), (V.int .i64 64), (V.sl 2 0 64 64), (V.int .i64 i), (V.sl 0 0 32 xc), (V.int .i64 32), (V.bool (decide (i < 32))), t20, t21, (V.int .i64 k), (V.sl 1 0 32 yc), (V.int .i64 32), (V.bool (decide (k < 32))), (V.int .i64 k), (V.int .i64 (addI .i64 k 1)), (V.sl 2 0 64 64), (V.int .i64 i), (V.int .i64 k), (V.int .i64 (addI .i64 i k)), (V.ptr 2 (0 + (Int.toNat (addI .i64 i k) * 1))), (V.int .i64 (g (0 + (Int.toNat (addI .i64 i k) * 1)))), (V.sl 0 0 32 xc), (V.int .i64 i), (V.ptr 0 (0 + (Int.toNat i * 1))), (V.int .i64 (xf (0 + (Int.toNat i * 1)))), (V.sl 1 0 32 yc), (V.int .i64 k), (V.ptr 1 (0 + (Int.toNat k * 1))), (V.int .i64 (yf (0 + (Int.toNat k * 1)))), (V.int .i64 (mulI .i64 (xf (0 + (Int.toNat i * 1))) (yf (0 + (Int.toNat k * 1))))), (V.int .i64 (addI .i64 (g (0 + (Int.toNat (addI .i64 i k) * 1))) (mulI .i64 (xf (0 + (Int.toNat i * 1))) (yf (0 + (Int.toNat k * 1)))))), (V.int .i64 q), (V.int .i64 (addI .i64 (addI .i64 (g (0 + (Int.toNat (addI .i64 i k) * 1))) (mulI .i64 (xf (0 + (Int.toNat i * 1))) (yf (0 + (Int.toNat k * 1))))) q)), (V.sl 2 0 64 64), (V.int .i64 i), (V.int .i64 k), (V.int .i64 (addI .i64 i k)), (V.int .i64 (addI .i64 (addI .i64 (g (0 + (Int.toNat (addI .i64 i k) * 1))) (mulI .i64 (xf (0 + (Int.toNat i * 1))) (yf (0 + (Int.toNat k * 1))))) q)), (V.int .i64 (remI (addI .i64 (addI .i64 (g (0 + (Int.toNat (addI .i64 i k) * 1))) (mulI .i64 (xf (0 + (Int.toNat i * 1))) (yf (0 + (Int.toNat k * 1))))) q) 256)), (V.ptr 2 (0 + (Int.toNat (addI .i64 i k) * 1))), (V.int .i64 (addI .i64 (addI .i64 (g (0 + (Int.toNat (addI .i64 i k) * 1))) (mulI .i64 (xf (0 + (Int.toNat i * 1))) (yf (0 + (Int.toNat k * 1))))) q)), (V.int .i64 (quoI .i64 (addI .i64 (addI .i64 (g (0 + (Int.toNat (addI .i64 i k) * 1))) (mulI .i64 (xf (0 + (Int.toNat i * 1))) (yf (0 + (Int.toNat k * 1))))) q) 256)), t55, t56, t57, t58, t59, t60, t61, V.un], [(V.tup [(V.ints .i64 (ex + 32) xf)]), (V.tup [(V.ints .i64 (ey + 32) yf)]), (V.ints .i64 64 (up (0 + (Int.toNat (addI .i64 i k) * 1)) (remI (addI .i64 (addI .i64 (g (0 + (Int.toNat (addI .i64 i k) * 1))) (mulI .i64 (xf (0 + (Int.toNat i * 1))) (yf (0 + (Int.toNat k * 1))))) q) 256) g))]⟩))))))))) (Q2 (.exit 2) ⟨[(V.sl 0 0 32 xc), (V.sl 1 0 32 yc), V.un, V.un, V.snil, (V.sl 2 0 64 64), (V.int .i64 i), (V.int .i64 q), (V.int .i64 k), t9, (V.sl 0 0 32 xc), (V.int .i64 32), (V.sl 1 0 32 yc), (V.int .i64 32), (V.int .i64 64), (V.sl 2 0 64 64), (V.int .i64 i), (V.sl 0 0 32 xc), (V.int .i64 32), (V.bool (decide (i < 32))), t20, t21, (V.int .i64 k), (V.sl 1 0 32 yc), (V.int .i64 32), (V.bool (decide (k < 32))), t26, t27, t28, t29, t30, t31, t32, t33, t34, t35, t36, t37, t38, t39, t40, t41, t42, t43, t44, t45, t46, t47, t48, t49, t50, t51, t52, t53, t54, t55, t56, t57, t58, t59, t60, t61, V.un], [(V.tup [(V.ints .i64 (ex + 32) xf)]), (V.tup [(V.ints .i64 (ey + 32) yf)]), (V.ints .i64 64 g)]⟩)) := by kernel_rfl
theorem prd_cxs (ex xc ey yc : Nat) (xf yf : Nat → Int) (i k q : Int) (g : Nat → Int) (t9 t20 t21 t22 t23 t24 t25 t26 t27 t28 t29 t30 t31 t32 t33 t34 t35 t36 t37 t38 t39 t40 t41 t42 t43 t44 t45 t46 t47 t48 t49 t50 t51 t52 t53 t54 t55 t56 t57 t58 t59 t60 t61 : V) (Q : Exit → St → Prop) (m : Nat) : (spineQ Tryd.prog o58 noG 300 (loopOf (body Tryd.f49)) (nxt 2 (awp Tryd.prog o58 noG 300 (loopOf (body Tryd.f49))) Q m)) (.exit 2) ⟨[(V.sl 0 0 32 xc), (V.sl 1 0 32 yc), V.un, V.un, V.snil, (V.sl 2 0 64 64), (V.int .i64 i), (V.int .i64 q), (V.int .i64 k), t9, (V.sl 0 0 32 xc), (V.int .i64 32), (V.sl 1 0 32 yc), (V.int .i64 32), (V.int .i64 64), (V.sl 2 0 64 64), (V.int .i64 i), (V.sl 0 0 32 xc), (V.int .i64 32), (V.bool (decide (i < 32))), t20, t21, t22, t23, t24, t25, t26, t27, t28, t29, t30, t31, t32, t33, t34, t35, t36, t37, t38, t39, t40, t41, t42, t43, t44, t45, t46, t47, t48, t49, t50, t51, t52, t53, t54, t55, t56, t57, t58, t59, t60, t61, V.un], [(V.tup [(V.ints .i64 (ex + 32) xf)]), (V.tup [(V.ints .i64 (ey + 32) yf)]), (V.ints .i64 64 g)]⟩ = (gB (decide (0 ≤ (addI .i64 i 32) ∧ (addI .i64 i 32) < 64)) (gB (Nat.blt (0 + (Int.toNat (addI .i64 i 32) * 1)) 64) (∀ μ : Mu, ∃ s2, Gc 2 μ ⟨[(V.sl 0 0 32 xc), (V.sl 1 0 32 yc), V.un, V.un, V.snil, (V.sl 2 0 64 64), (V.int .i64 (addI .i64 i 1)), (V.int .i64 q), (V.int .i64 k), t9, (V.sl 0 0 32 xc), (V.int .i64 32), (V.sl 1 0 32 yc), (V.int .i64 32), (V.int .i64 64), (V.sl 2 0 64 64), (V.int .i64 i), (V.sl 0 0 32 xc), (V.int .i64 32), (V.bool (decide (i < 32))), (V.int .i64 i), (V.int .i64 (addI .i64 i 1)), t22, t23, t24, t25, t26, t27, t28, t29, t30, t31, t32, t33, t34, t35, t36, t37, t38, t39, t40, t41, t42, t43, t44, t45, t46, t47, t48, t49, t50, t51, t52, t53, t54, (V.sl 2 0 64 64), (V.int .i64 i), (V.sl 1 0 32 yc), (V.int .i64 32), (V.int .i64 (addI .i64 i 32)), (V.int .i64 q), (V.ptr 2 (0 + (Int.toNat (addI .i64 i 32) * 1))), V.un], [(V.tup [(V.ints .i64 (ex + 32) xf)]), (V.tup [(V.ints .i64 (ey + 32) yf)]), (V.ints .i64 64 (up (0 + (Int.toNat (addI .i64 i 32) * 1)) q g))]⟩ s2 ∧ (lpW 2 (awp Tryd.prog o58 noG 300 (loopOf (body Tryd.f49)))) Q m s2))) := by kernel_rfl
theorem prd_cx (ex xc ey yc : Nat) (xf yf : Nat → Int) (i k q : Int) (g : Nat → Int) (t9 t20 t21 t22 t23 t24 t25 t26 t27 t28 t29 t30 t31 t32 t33 t34 t35 t36 t37 t38 t39 t40 t41 t42 t43 t44 t45 t46 t47 t48 t49 t50 t51 t52 t53 t54 t55 t56 t57 t58 t59 t60 t61 : V) (Q : Exit → St → Prop) (m : Nat) (h : (gB (decide (0 ≤ (addI .i64 i 32) ∧ (addI .i64 i 32) < 64)) (gB (Nat.blt (0 + (Int.toNat (addI .i64 i 32) * 1)) 64) (∀ (u7 u8 u9 u16 u17 u18 u19 u20 u21 u22 u23 u24 u25 u26 u27 u28 u29 u30 u31 u32 u33 u34 u35 u36 u37 u38 u39 u40 u41 u42 u43 u44 u45 u46 u47 u48 u49 u50 u51 u52 u53 u54 u55 u56 u57 u58 u59 u60 u61 : V), (lpW 2 (awp Tryd.prog o58 noG 300 (loopOf (body Tryd.f49)))) Q m ⟨[(V.sl 0 0 32 xc), (V.sl 1 0 32 yc), V.un, V.un, V.snil, (V.sl 2 0 64 64), (V.int .i64 (addI .i64 i 1)), u7, u8, u9, (V.sl 0 0 32 xc), (V.int .i64 32), (V.sl 1 0 32 yc), (V.int .i64 32), (V.int .i64 64), (V.sl 2 0 64 64), u16, u17, u18, u19, u20, u21, u22, u23, u24, u25, u26, u27, u28, u29, u30, u31, u32, u33, u34, u35, u36, u37, u38, u39, u40, u41, u42, u43, u44, u45, u46, u47, u48, u49, u50, u51, u52, u53, u54, u55, u56, u57, u58, u59, u60, u61, V.un], [(V.tup [(V.ints .i64 (ex + 32) xf)]), (V.tup [(V.ints .i64 (ey + 32) yf)]), (V.ints .i64 64 (up (0 + (Int.toNat (addI .i64 i 32) * 1)) q g))]⟩)))) : (spineQ Tryd.prog o58 noG 300 (loopOf (body Tryd.f49)) (nxt 2 (awp Tryd.prog o58 noG 300 (loopOf (body Tryd.f49))) Q m)) (.exit 2) ⟨[(V.sl 0 0 32 xc), (V.sl 1 0 32 yc), V.un, V.un, V.snil, (V.sl 2 0 64 64), (V.int .i64 i), (V.int .i64 q), (V.int .i64 k), t9, (V.sl 0 0 32 xc), (V.int .i64 32), (V.sl 1 0 32 yc), (V.int .i64 32), (V.int .i64 64), (V.sl 2 0 64 64), (V.int .i64 i), (V.sl 0 0 32 xc), (V.int .i64 32), (V.bool (decide (i < 32))), t20, t21, t22, t23, t24, t25, t26, t27, t28, t29, t30, t31, t32, t33, t34, t35, t36, t37, t38, t39, t40, t41, t42, t43, t44, t45, t46, t47, t48, t49, t50, t51, t52, t53, t54, t55, t56, t57, t58, t59, t60, t61, V.un], [(V.tup [(V.ints .i64 (ex + 32) xf)]), (V.tup [(V.ints .i64 (ey + 32) yf)]), (V.ints .i64 64 g)]⟩ := by
  rw [prd_cxs]
  exact (gB_imp (fun h0 => (gB_imp (fun h1 => (fun μ => ⟨_, gc_of [0, 1, 2] (m2 := [(V.tup [(V.ints .i64 (ex + 32) xf)]), (V.tup [(V.ints .i64 (ey + 32) yf)]), (V.ints .i64 64 (up (0 + (Int.toNat (addI .i64 i 32) * 1)) q g))]) (by kernel_rfl) (by kernel_rfl) (by kernel_rfl), cast_lp (show (St.mk _ _) = ⟨[(V.sl 0 0 32 xc), (V.sl 1 0 32 yc), V.un, V.un, V.snil, (V.sl 2 0 64 64), (V.int .i64 (addI .i64 i 1)), (V.int .i64 q), (V.int .i64 k), (V.keep [0, 1, 2] μ t9), (V.sl 0 0 32 xc), (V.int .i64 32), (V.sl 1 0 32 yc), (V.int .i64 32), (V.int .i64 64), (V.sl 2 0 64 64), (V.int .i64 i), (V.sl 0 0 32 xc), (V.int .i64 32), (V.bool (decide (i < 32))), (V.int .i64 i), (V.int .i64 (addI .i64 i 1)), (V.keep [0, 1, 2] μ t22), (V.keep [0, 1, 2] μ t23), (V.keep [0, 1, 2] μ t24), (V.keep [0, 1, 2] μ t25), (V.keep [0, 1, 2] μ t26), (V.keep [0, 1, 2] μ t27), (V.keep [0, 1, 2] μ t28), (V.keep [0, 1, 2] μ t29), (V.keep [0, 1, 2] μ t30), (V.keep [0, 1, 2] μ t31), (V.keep [0, 1, 2] μ t32), (V.keep [0, 1, 2] μ t33), (V.keep [0, 1, 2] μ t34), (V.keep [0, 1, 2] μ t35), (V.keep [0, 1, 2] μ t36), (V.keep [0, 1, 2] μ t37), (V.keep [0, 1, 2] μ t38), (V.keep [0, 1, 2] μ t39), (V.keep [0, 1, 2] μ t40), (V.keep [0, 1, 2] μ t41), (V.keep [0, 1, 2] μ t42), (V.keep [0, 1, 2] μ t43), (V.keep [0, 1, 2] μ t44), (V.keep [0, 1, 2] μ t45), (V.keep [0, 1, 2] μ t46), (V.keep [0, 1, 2] μ t47), (V.keep [0, 1, 2] μ t48), (V.keep [0, 1, 2] μ t49), (V.keep [0, 1, 2] μ t50), (V.keep [0, 1, 2] μ t51), (V.keep [0, 1, 2] μ t52), (V.keep [0, 1, 2] μ t53), (V.keep [0, 1, 2] μ t54), (V.sl 2 0 64 64), (V.int .i64 i), (V.sl 1 0 32 yc), (V.int .i64 32), (V.int .i64 (addI .i64 i 32)), (V.int .i64 q), (V.ptr 2 (0 + (Int.toNat (addI .i64 i 32) * 1))), V.un], [(V.tup [(V.ints .i64 (ex + 32) xf)]), (V.tup [(V.ints .i64 (ey + 32) yf)]), (V.ints .i64 64 (up (0 + (Int.toNat (addI .i64 i 32) * 1)) q g))]⟩ by kernel_rfl) (h1 (V.int .i64 q) (V.int .i64 k) (V.keep [0, 1, 2] μ t9) (V.int .i64 i) (V.sl 0 0 32 xc) (V.int .i64 32) (V.bool (decide (i < 32))) (V.int .i64 i) (V.int .i64 (addI .i64 i 1)) (V.keep [0, 1, 2] μ t22) (V.keep [0, 1, 2] μ t23) (V.keep [0, 1, 2] μ t24) (V.keep [0, 1, 2] μ t25) (V.keep [0, 1, 2] μ t26) (V.keep [0, 1, 2] μ t27) (V.keep [0, 1, 2] μ t28) (V.keep [0, 1, 2] μ t29) (V.keep [0, 1, 2] μ t30) (V.keep [0, 1, 2] μ t31) (V.keep [0, 1, 2] μ t32) (V.keep [0, 1, 2] μ t33) (V.keep [0, 1, 2] μ t34) (V.keep [0, 1, 2] μ t35) (V.keep [0, 1, 2] μ t36) (V.keep [0, 1, 2] μ t37) (V.keep [0, 1, 2] μ t38) (V.keep [0, 1, 2] μ t39) (V.keep [0, 1, 2] μ t40) (V.keep [0, 1, 2] μ t41) (V.keep [0, 1, 2] μ t42) (V.keep [0, 1, 2] μ t43) (V.keep [0, 1, 2] μ t44) (V.keep [0, 1, 2] μ t45) (V.keep [0, 1, 2] μ t46) (V.keep [0, 1, 2] μ t47) (V.keep [0, 1, 2] μ t48) (V.keep [0, 1, 2] μ t49) (V.keep [0, 1, 2] μ t50) (V.keep [0, 1, 2] μ t51) (V.keep [0, 1, 2] μ t52) (V.keep [0, 1, 2] μ t53) (V.keep [0, 1, 2] μ t54) (V.sl 2 0 64 64) (V.int .i64 i) (V.sl 1 0 32 yc) (V.int .i64 32) (V.int .i64 (addI .i64 i 32)) (V.int .i64 q) (V.ptr 2 (0 + (Int.toNat (addI .i64 i 32) * 1))))⟩)) h0)) h)
theorem prd_in {ex xc ey yc : Nat} {xf yf : Nat → Int} {i : Nat} (hi : i < 32) (hh : Nat → Int) {Q : Exit → St → Prop} {m : Nat}
    (h : ∀ (u7 u8 u9 u16 u17 u18 u19 u20 u21 u22 u23 u24 u25 u26 u27 u28 u29 u30 u31 u32 u33 u34 u35 u36 u37 u38 u39 u40 u41 u42 u43 u44 u45 u46 u47 u48 u49 u50 u51 u52 u53 u54 u55 u56 u57 u58 u59 u60 u61 : V), (lpW 2 (awp Tryd.prog o58 noG 300 (loopOf (body Tryd.f49)))) Q m ⟨[(V.sl 0 0 32 xc), (V.sl 1 0 32 yc), V.un, V.un, V.snil, (V.sl 2 0 64 64), (V.int .i64 ((i + 1 : Nat) : Int)), u7, u8, u9, (V.sl 0 0 32 xc), (V.int .i64 32), (V.sl 1 0 32 yc), (V.int .i64 32), (V.int .i64 64), (V.sl 2 0 64 64), u16, u17, u18, u19, u20, u21, u22, u23, u24, u25, u26, u27, u28, u29, u30, u31, u32, u33, u34, u35, u36, u37, u38, u39, u40, u41, u42, u43, u44, u45, u46, u47, u48, u49, u50, u51, u52, u53, u54, u55, u56, u57, u58, u59, u60, u61, V.un], [(V.tup [(V.ints .i64 (ex + 32) xf)]), (V.tup [(V.ints .i64 (ey + 32) yf)]), (V.ints .i64 64 (up (i + 32) (pin (xf i) yf i hh 32).2 (pin (xf i) yf i hh 32).1))]⟩) : ∀ (r k m2 : Nat), k + r = 32 → r + 1 ≤ m2 → ∀ (t9 t20 t21 t22 t23 t24 t25 t26 t27 t28 t29 t30 t31 t32 t33 t34 t35 t36 t37 t38 t39 t40 t41 t42 t43 t44 t45 t46 t47 t48 t49 t50 t51 t52 t53 t54 t55 t56 t57 t58 t59 t60 t61 : V), (lp (awp Tryd.prog o58 noG 300 (loopOf (loopOf (body Tryd.f49))))) (spineQ Tryd.prog o58 noG 300 (loopOf (body Tryd.f49)) (nxt 2 (awp Tryd.prog o58 noG 300 (loopOf (body Tryd.f49))) Q m)) m2 ⟨[(V.sl 0 0 32 xc), (V.sl 1 0 32 yc), V.un, V.un, V.snil, (V.sl 2 0 64 64), (V.int .i64 (i : Int)), (V.int .i64 (pin (xf i) yf i hh k).2), (V.int .i64 (k : Int)), t9, (V.sl 0 0 32 xc), (V.int .i64 32), (V.sl 1 0 32 yc), (V.int .i64 32), (V.int .i64 64), (V.sl 2 0 64 64), (V.int .i64 (i : Int)), (V.sl 0 0 32 xc), (V.int .i64 32), (V.bool (decide ((i : Int) < 32))), t20, t21, t22, t23, t24, t25, t26, t27, t28, t29, t30, t31, t32, t33, t34, t35, t36, t37, t38, t39, t40, t41, t42, t43, t44, t45, t46, t47, t48, t49, t50, t51, t52, t53, t54, t55, t56, t57, t58, t59, t60, t61, V.un], [(V.tup [(V.ints .i64 (ex + 32) xf)]), (V.tup [(V.ints .i64 (ey + 32) yf)]), (V.ints .i64 64 (pin (xf i) yf i hh k).1)]⟩
  | 0, k, m2, hk, hm, t9, t20, t21, t22, t23, t24, t25, t26, t27, t28, t29, t30, t31, t32, t33, t34, t35, t36, t37, t38, t39, t40, t41, t42, t43, t44, t45, t46, t47, t48, t49, t50, t51, t52, t53, t54, t55, t56, t57, t58, t59, t60, t61 => by
    obtain ⟨m2, rfl⟩ : ∃ z, m2 = z + 1 := ⟨m2 - 1, by omega⟩
    obtain rfl : k = 32 := by omega
    rw [prd_cs]
    refine mBt (fun h => absurd (of_decide_eq_true h) (by omega)) (fun _ => ?_)
    refine prd_cx _ _ _ _ _ _ _ _ _ _ _ _ _ _ _ _ _ _ _ _ _ _ _ _ _ _ _ _ _ _ _ _ _ _ _ _ _ _ _ _ _ _ _ _ _ _ _ _ _ _ _ _ _ _ _ ?_
    have e1 : addI .i64 (i : Int) 32 = ((i + 32 : Nat) : Int) := by unfold addI; rw [wrap_i64 _ (by omega)]; omega
    have e2 : addI .i64 (i : Int) 1 = ((i + 1 : Nat) : Int) := add1_nat i (by omega)
    have e3 : 0 + (Int.toNat ((i + 32 : Nat) : Int) * 1) = i + 32 := by rw [Int.toNat_natCast]; omega
    rw [e1, e2, e3]
    exact gm (decide_eq_true (by omega)) (gm (bltT.2 (by omega)) h)
  | r + 1, k, m2, hk, hm, t9, t20, t21, t22, t23, t24, t25, t26, t27, t28, t29, t30, t31, t32, t33, t34, t35, t36, t37, t38, t39, t40, t41, t42, t43, t44, t45, t46, t47, t48, t49, t50, t51, t52, t53, t54, t55, t56, t57, t58, t59, t60, t61 => by
    obtain ⟨m2, rfl⟩ : ∃ z, m2 = z + 1 := ⟨m2 - 1, by omega⟩
    rw [prd_cs]
    have e1 : addI .i64 (i : Int) (k : Int) = ((i + k : Nat) : Int) := by unfold addI; rw [wrap_i64 _ (by omega)]; omega
    have e2 : addI .i64 (k : Int) 1 = ((k + 1 : Nat) : Int) := add1_nat k (by omega)
    have e3 : 0 + (Int.toNat ((i + k : Nat) : Int) * 1) = i + k := by rw [Int.toNat_natCast]; omega
    have e4 : 0 + (Int.toNat (i : Int) * 1) = i := by rw [Int.toNat_natCast]; omega
    have e5 : 0 + (Int.toNat (k : Int) * 1) = k := by rw [Int.toNat_natCast]; omega
    rw [e1, e2, e3, e4, e5]
    have go : decide (0 ≤ ((i + k : Nat) : Int) ∧ ((i + k : Nat) : Int) < 64) = true := decide_eq_true (by omega)
    have gi : decide (0 ≤ (i : Int) ∧ (i : Int) < 32) = true := decide_eq_true (by omega)
    have gk : decide (0 ≤ (k : Int) ∧ (k : Int) < 32) = true := decide_eq_true (by omega)
    refine mBt (fun _ => gm go (gm (bltT.2 (by omega)) (gm gi (gm (bltT.2 (by omega)) (gm gk (gm (bltT.2 (by omega)) (gm go (gm (bltT.2 (by omega)) ?_)))))))) (fun h => absurd (of_decide_eq_false h) (by omega))
    exact prd_in hi hh h r (k + 1) m2 (by omega) (by omega) _ _ _ _ _ _ _ _ _ _ _ _ _ _ _ _ _ _ _ _ _ _ _ _ _ _ _ _ _ _ _ _ _ _ _ _ _ _ _ _ _ _ _
theorem prd_l (ex xc ey yc : Nat) (xf yf : Nat → Int) (hx : By 32 xf) (hy : By 32 yf) : ∀ (r i m : Nat), i + r = 32 → r + 1 ≤ m → ∀ (t7 t8 t9 t16 t17 t18 t19 t20 t21 t22 t23 t24 t25 t26 t27 t28 t29 t30 t31 t32 t33 t34 t35 t36 t37 t38 t39 t40 t41 t42 t43 t44 t45 t46 t47 t48 t49 t50 t51 t52 t53 t54 t55 t56 t57 t58 t59 t60 t61 : V),
    (lpW 2 (awp Tryd.prog o58 noG 300 (loopOf (body Tryd.f49)))) ((spineW Tryd.prog o58 noG 2 300 (body Tryd.f49) (ends Tryd.prog Tryd.f49 fun v m => madeK (prdD xf yf) v m))) m ⟨[(V.sl 0 0 32 xc), (V.sl 1 0 32 yc), V.un, V.un, V.snil, (V.sl 2 0 64 64), (V.int .i64 (i : Int)), t7, t8, t9, (V.sl 0 0 32 xc), (V.int .i64 32), (V.sl 1 0 32 yc), (V.int .i64 32), (V.int .i64 64), (V.sl 2 0 64 64), t16, t17, t18, t19, t20, t21, t22, t23, t24, t25, t26, t27, t28, t29, t30, t31, t32, t33, t34, t35, t36, t37, t38, t39, t40, t41, t42, t43, t44, t45, t46, t47, t48, t49, t50, t51, t52, t53, t54, t55, t56, t57, t58, t59, t60, t61, V.un], [(V.tup [(V.ints .i64 (ex + 32) xf)]), (V.tup [(V.ints .i64 (ey + 32) yf)]), (V.ints .i64 64 (prdR xf yf i))]⟩
  | 0, i, m, hi, hm, t7, t8, t9, t16, t17, t18, t19, t20, t21, t22, t23, t24, t25, t26, t27, t28, t29, t30, t31, t32, t33, t34, t35, t36, t37, t38, t39, t40, t41, t42, t43, t44, t45, t46, t47, t48, t49, t50, t51, t52, t53, t54, t55, t56, t57, t58, t59, t60, t61 => by
    obtain ⟨m, rfl⟩ : ∃ z, m = z + 1 := ⟨m - 1, by omega⟩
    obtain rfl : i = 32 := by omega
    rw [prd_bo]
    refine mBt (fun h => absurd (of_decide_eq_true h) (by omega)) (fun _ => ?_)
    rw [prd_bx]
    exact ⟨2, 64, _, fun μ => rfl, rfl, Nat.le_refl _, prd_has hx hy⟩
  | r + 1, i, m, hi, hm, t7, t8, t9, t16, t17, t18, t19, t20, t21, t22, t23, t24, t25, t26, t27, t28, t29, t30, t31, t32, t33, t34, t35, t36, t37, t38, t39, t40, t41, t42, t43, t44, t45, t46, t47, t48, t49, t50, t51, t52, t53, t54, t55, t56, t57, t58, t59, t60, t61 => by
    obtain ⟨m, rfl⟩ : ∃ z, m = z + 1 := ⟨m - 1, by omega⟩
    rw [prd_bo]
    refine mBt (fun _ => ?_) (fun h => absurd (of_decide_eq_false h) (by omega))
    exact prd_in (by omega) (prdR xf yf i) (fun u7 u8 u9 u16 u17 u18 u19 u20 u21 u22 u23 u24 u25 u26 u27 u28 u29 u30 u31 u32 u33 u34 u35 u36 u37 u38 u39 u40 u41 u42 u43 u44 u45 u46 u47 u48 u49 u50 u51 u52 u53 u54 u55 u56 u57 u58 u59 u60 u61 => prd_l ex xc ey yc xf yf hx hy r (i + 1) m (by omega) (by omega) _ _ _ _ _ _ _ _ _ _ _ _ _ _ _ _ _ _ _ _ _ _ _ _ _ _ _ _ _ _ _ _ _ _ _ _ _ _ _ _ _ _ _ _ _ _ _ _ _) 32 0 300 (by omega) (by omega) _ _ _ _ _ _ _ _ _ _ _ _ _ _ _ _ _ _ _ _ _ _ _ _ _ _ _ _ _ _ _ _ _ _ _ _ _ _ _ _ _ _ _
theorem prd_all {ex xc ey yc : Nat} {xf yf : Nat → Int} (hx : byO 32 xf = true) (hy : byO 32 yf = true) : awq Tryd.prog o58 noG 2 300 (body Tryd.f49) (ends Tryd.prog Tryd.f49 fun v m => madeK (prdD xf yf) v m) ⟨[(V.sl 0 0 32 xc), (V.sl 1 0 32 yc)] ++ List.replicate 61 V.un, [(V.tup [(V.ints .i64 (ex + 32) xf)]), (V.tup [(V.ints .i64 (ey + 32) yf)])]⟩ := by
  rw [prd_h]
  exact prd_l ex xc ey yc xf yf (byO_at hx) (byO_at hy) 32 0 300 (by omega) (by omega) _ _ _ _ _ _ _ _ _ _ _ _ _ _ _ _ _ _ _ _ _ _ _ _ _ _ _ _ _ _ _ _ _ _ _ _ _ _ _ _ _ _ _ _ _ _ _ _ _
noncomputable def g49 : List V → List V → Option (Bool × Made) := fun vs m => match views [] vs m with
  | some ([.sl 0 0 32 xc, .sl 1 0 32 yc], [.tup [.ints .i64 xN xf], .tup [.ints .i64 yN yf]]) => some (Nat.ble 32 xN && Nat.ble 32 yN && (byO 32 xf && byO 32 yf), prdD xf yf)
  | _ => none
noncomputable def exG49 (G : GOrc) : GOrc := mkG 49 g49 G
theorem G49_ok {G : GOrc} (hG : GOrcOK Tryd.prog G) : GOrcOK Tryd.prog (exG49 G) := by
  refine mkG_ok hG fun vs m d h K hK => ?_
  unfold g49 at h
  split at h
  · rename_i xc yc xN xf yN yf hv
    simp only [Option.some.injEq, Prod.mk.injEq, Bool.and_eq_true] at h
    obtain ⟨⟨⟨h1, h2⟩, h3, h4⟩, rfl⟩ := h
    have h1 := bleT.1 h1; have h2 := bleT.1 h2
    obtain ⟨ex, rfl⟩ : ∃ e, xN = e + 32 := ⟨xN - 32, by omega⟩
    obtain ⟨ey, rfl⟩ : ∃ e, yN = e + 32 := ⟨yN - 32, by omega⟩
    exact makes_awq (fn := Tryd.f49) (N := 300) (n := 61) hM o58_ok (noG_ok _) Tryd.func49 (by kernel_rfl) (by kernel_rfl) hv (fun μ μ' i i' cap hi => by simp [prdD, V.den, hi]) (fun ρ i cap => by simp [prdD, V.ren]) (prd_all h3 h4) (by kernel_rfl) (by kernel_rfl) hK
  · cases h
end Go.Proofs.YtnoehjibponofaaDoor

/-
  ScalarReduces, ScalarSums: the laws' answers. Conditions: none.
-/
namespace Go.Proofs.YtnoehjibponofaaDoor
open Go.Ev Go.Num
noncomputable def d20 : Orc := ext 20 g20 p13
theorem d20_ok : OrcOK Tryd.prog d20 := ext_ok p13_ok g20_ok
noncomputable def d18 : Orc := ext 18 g18 d20
theorem d18_ok : OrcOK Tryd.prog d18 := ext_ok d20_ok g18_ok
noncomputable def d26 : Orc := ext 26 g26 d18
theorem d26_ok : OrcOK Tryd.prog d26 := ext_ok d18_ok g26_ok
noncomputable def d30 : Orc := ext 30 g30 d26
theorem d30_ok : OrcOK Tryd.prog d30 := ext_ok d26_ok g30_ok
theorem by_negO (a : Nat → Int) (n : Nat) : By n (negO a) := by rw [neg_st]; exact by_stF _ n
theorem by_addO (a b : Nat → Int) (n : Nat) : By n (addO a b) := by rw [add_st]; exact by_stF _ n
theorem by_mulO (a b : Nat → Int) (n : Nat) : By n (mulO a b) := by rw [mul_st]; exact by_stF _ n
theorem d28_t (a b : Nat → Int) (r : V) : awp Tryd.prog d30 noG 300 (body Tryd.f28) (ends Tryd.prog Tryd.f28 fun v _ => okV r v) ⟨[V.ints .u8 32 a, V.ints .u8 32 b] ++ List.replicate 7 V.un, []⟩ = (gB (byO 32 b) (gB (byO 32 a && byO 32 (negO b)) (okV r (V.ints .u8 32 (addO a (negO b)))))) := by kernel_rfl
theorem d28_a {a b : Nat → Int} (hg : (byO 32 a && byO 32 b) = true) : awp Tryd.prog d30 noG 300 (body Tryd.f28) (ends Tryd.prog Tryd.f28 fun v _ => okV (V.ints .u8 32 (addO a (negO b))) v) ⟨[V.ints .u8 32 a, V.ints .u8 32 b] ++ List.replicate 7 V.un, []⟩ := by
  rw [d28_t]
  exact gm (and_r hg) (gm (both (and_l hg) (byO_mk (by_negO b 32))) (okV_refl rfl))
noncomputable def g28 : List V → Option (Bool × V) := fun | [.ints .u8 32 a, .ints .u8 32 b] => some ((byO 32 a && byO 32 b), V.ints .u8 32 (addO a (negO b))) | _ => none
theorem g28_ok (vs : List V) (v : V) (h : g28 vs = some (true, v)) : (∀ μ μ', v.den μ' = v.den μ) ∧ ∀ μ w, PureAt Tryd.prog 28 (vs.map (V.den μ)).toArray (v.den μ) w := by
  unfold g28 at h
  split at h
  · simp only [Option.some.injEq, Prod.mk.injEq] at h
    obtain ⟨h, rfl⟩ := h
    exact pure_ok (F := d30) (N := 300) (fn := Tryd.f28) (args := [_, _]) (r := _) (n := 7) hM d30_ok (noG_ok _) Tryd.func28 (by kernel_rfl) (by kernel_rfl) (by kernel_rfl) (by kernel_rfl) (d28_a h) (by kernel_rfl)
  · cases h
noncomputable def d28 : Orc := ext 28 g28 d30
theorem d28_ok : OrcOK Tryd.prog d28 := ext_ok d30_ok g28_ok
theorem by_w32 {w : Nat → Int} (hw : By 64 w) : By 32 (w32 w) := fun j hj => by rw [w32_lo w j hj]; exact hw j (by omega)
theorem no_eq {a : Nat → Int} {A : Prop} (h : eqN 32 a a = false) : A := by rw [eqN_refl] at h; cases h
theorem lawReduces_t (w : Nat → Int) : awp Tryd.prog d28 noG 300 (body Tryd.f4) (ends Tryd.prog Tryd.f4 fun v _ => okV (V.bool true) v) ⟨[(V.ints .u8 64 w)] ++ List.replicate 25 V.un, [(V.tup [V.fn 2, (V.ints .u64 4 ordF)])]⟩ = (gB (byO 64 w) (mB (eqN 32 (rdcO w) (rdcO w)) (gB (byO 32 (w32 w)) (okV (V.bool true) (V.bool ((canO (w32 w)) == (canO (w32 w)))))) (okV (V.bool true) (V.bool false)))) := by kernel_rfl
theorem lawReduces_a {w : Nat → Int} (hw : By 64 w) : awp Tryd.prog d28 noG 300 (body Tryd.f4) (ends Tryd.prog Tryd.f4 fun v _ => okV (V.bool true) v) ⟨[(V.ints .u8 64 w)] ++ List.replicate 25 V.un, [(V.tup [V.fn 2, (V.ints .u64 4 ordF)])]⟩ := by
  rw [lawReduces_t]
  refine gm (byO_mk hw) (mBt (fun _ => gm (byO_mk (by_w32 hw)) (okV_bool ?_)) (fun h => no_eq h))
  exact beq_self_eq_true _
theorem lawSums_t (a b : Nat → Int) : awp Tryd.prog d28 noG 300 (body Tryd.f6) (ends Tryd.prog Tryd.f6 fun v _ => okV (V.bool true) v) ⟨[(V.ints .u8 32 a), (V.ints .u8 32 b)] ++ List.replicate 26 V.un, [(V.tup [V.fn 2, (V.ints .u64 4 ordF)])]⟩ = (gB ((byO 32 a) && (byO 32 b)) (mB (eqN 32 (addO a b) (addO a b)) (gB ((byO 32 a) && (byO 32 b)) (mB (eqN 32 (addO a (negO b)) (addO a (negO b))) (gB (byO 32 a) (okV (V.bool true) (V.bool (eqN 32 (negO a) (negO a))))) (okV (V.bool true) (V.bool false)))) (okV (V.bool true) (V.bool false)))) := by kernel_rfl
theorem lawSums_a {a b : Nat → Int} (ha : By 32 a) (hb : By 32 b) : awp Tryd.prog d28 noG 300 (body Tryd.f6) (ends Tryd.prog Tryd.f6 fun v _ => okV (V.bool true) v) ⟨[(V.ints .u8 32 a), (V.ints .u8 32 b)] ++ List.replicate 26 V.un, [(V.tup [V.fn 2, (V.ints .u64 4 ordF)])]⟩ := by
  rw [lawSums_t]
  have g := both (byO_mk ha) (byO_mk hb)
  refine gm g (mBt (fun _ => gm g (mBt (fun _ => gm (byO_mk ha) (okV_bool (eqN_refl _ _))) (fun h => no_eq h))) (fun h => no_eq h))
end Go.Proofs.YtnoehjibponofaaDoor

/-
  The document's Mul and MulAdd: contracts. Conditions: none.
-/
namespace Go.Proofs.YtnoehjibponofaaDoor
open Go.Ev Go.Num
set_option linter.unusedVariables false
theorem nm_prd {f g : Nat → Int} {u v : Int} (h : Nat → Int) (hf : Nm 32 f u) (hg : Nm 32 g v) : Nm 64 (apx 64 (prdO f g) h) (u * v) := by
  refine nm_apx h ?_
  rw [prdO_eq]
  dsimp only
  have hb := prd_bound hf.1 hg.1
  rw [hf.2, hg.2] at hb ⊢
  exact st_64 hb.1 hb.2
noncomputable def GE : GOrc := exG49 GD
theorem GE_ok : GOrcOK Tryd.prog GE := G49_ok GD_ok
theorem d22_t (a b : Nat → Int) (r : V) : awp Tryd.prog o41 GE 300 (body Tryd.f22) (ends Tryd.prog Tryd.f22 fun v _ => okV r v) ⟨[V.ints .u8 32 a, V.ints .u8 32 b] ++ List.replicate 10 V.un, []⟩ = (((∀ (e1 : Nat) (ff2 : Nat → Int), (∀ (e3 : Nat) (ff4 : Nat → Int), (gB (byO 32 (apx 32 (fun j => IntKind.wrap .i64 (a j)) ff2) && byO 32 (apx 32 (fun j => IntKind.wrap .i64 (b j)) ff4)) (∀ (e5 : Nat) (ff6 : Nat → Int), (gB (byO 64 (apx 64 (prdO (apx 32 (fun j => IntKind.wrap .i64 (a j)) ff2) (apx 32 (fun j => IntKind.wrap .i64 (b j)) ff4)) ff6)) (∀ (e7 : Nat) (ff8 : Nat → Int), (okV r (V.ints .u8 32 (tellO 33 (apx 33 (modO 64 (apx 64 (prdO (apx 32 (fun j => IntKind.wrap .i64 (a j)) ff2) (apx 32 (fun j => IntKind.wrap .i64 (b j)) ff4)) ff6)) ff8)))))))))) ∧ (∀ (e9 : Nat) (ff10 : Nat → Int), (∀ (e11 : Nat) (ff12 : Nat → Int), (gB (byO 32 (apx 32 (fun j => IntKind.wrap .i64 (a j)) ff10) && byO 32 (apx 32 (fun j => IntKind.wrap .i64 (b j)) ff12)) (∀ (e13 : Nat) (ff14 : Nat → Int), (gB (byO 64 (apx 64 (prdO (apx 32 (fun j => IntKind.wrap .i64 (a j)) ff10) (apx 32 (fun j => IntKind.wrap .i64 (b j)) ff12)) ff14)) (∀ (e15 : Nat) (ff16 : Nat → Int), (okV r (V.ints .u8 32 (tellO 33 (apx 33 (modO 64 (apx 64 (prdO (apx 32 (fun j => IntKind.wrap .i64 (a j)) ff10) (apx 32 (fun j => IntKind.wrap .i64 (b j)) ff12)) ff14)) ff16))))))))))) ∧ (∀ (e17 : Nat) (ff18 : Nat → Int), (∀ (e19 : Nat) (ff20 : Nat → Int), (gB (byO 32 (apx 32 (fun j => IntKind.wrap .i64 (a j)) ff18) && byO 32 (apx 32 (fun j => IntKind.wrap .i64 (b j)) ff20)) (∀ (e21 : Nat) (ff22 : Nat → Int), (gB (byO 64 (apx 64 (prdO (apx 32 (fun j => IntKind.wrap .i64 (a j)) ff18) (apx 32 (fun j => IntKind.wrap .i64 (b j)) ff20)) ff22)) (∀ (e23 : Nat) (ff24 : Nat → Int), (okV r (V.ints .u8 32 (tellO 33 (apx 33 (modO 64 (apx 64 (prdO (apx 32 (fun j => IntKind.wrap .i64 (a j)) ff18) (apx 32 (fun j => IntKind.wrap .i64 (b j)) ff20)) ff22)) ff24))))))))))) := by kernel_rfl
theorem d22_a {a b : Nat → Int} (hg : (byO 32 a && byO 32 b) = true) : awp Tryd.prog o41 GE 300 (body Tryd.f22) (ends Tryd.prog Tryd.f22 fun v _ => okV (V.ints .u8 32 (mulO a b)) v) ⟨[V.ints .u8 32 a, V.ints .u8 32 b] ++ List.replicate 10 V.un, []⟩ := by
  rw [d22_t]
  have ha := byO_at (and_l hg)
  have hb := byO_at (and_r hg)
  refine ⟨?_, ?_⟩
  · refine ⟨?_, ?_⟩
    · intro e1 ff2
      have h0 := nm_of ff2 ha
      intro e3 ff4
      have h1 := nm_of ff4 hb
      refine gm (both (byO_mk h0.1) (byO_mk h1.1)) ?_
      intro e5 ff6
      have h2 := nm_prd ff6 h0 h1
      refine gm (byO_mk h2.1) ?_
      intro e7 ff8
      have h3 := nm_mod ff8 h2
      refine okV_ints ?_
      refine (nm_tell h3 (mod_nn _).2).trans ?_
      rw [mulO_eq]
      dsimp only
      rw [num_bytes ha, num_bytes hb]
    · intro e9 ff10
      have h0 := nm_of ff10 ha
      intro e11 ff12
      have h1 := nm_of ff12 hb
      refine gm (both (byO_mk h0.1) (byO_mk h1.1)) ?_
      intro e13 ff14
      have h2 := nm_prd ff14 h0 h1
      refine gm (byO_mk h2.1) ?_
      intro e15 ff16
      have h3 := nm_mod ff16 h2
      refine okV_ints ?_
      refine (nm_tell h3 (mod_nn _).2).trans ?_
      rw [mulO_eq]
      dsimp only
      rw [num_bytes ha, num_bytes hb]
  · intro e17 ff18
    have h0 := nm_of ff18 ha
    intro e19 ff20
    have h1 := nm_of ff20 hb
    refine gm (both (byO_mk h0.1) (byO_mk h1.1)) ?_
    intro e21 ff22
    have h2 := nm_prd ff22 h0 h1
    refine gm (byO_mk h2.1) ?_
    intro e23 ff24
    have h3 := nm_mod ff24 h2
    refine okV_ints ?_
    refine (nm_tell h3 (mod_nn _).2).trans ?_
    rw [mulO_eq]
    dsimp only
    rw [num_bytes ha, num_bytes hb]
noncomputable def g22 : List V → Option (Bool × V) := fun | [.ints .u8 32 a, .ints .u8 32 b] => some ((byO 32 a && byO 32 b), (V.ints .u8 32 (mulO a b))) | _ => none
theorem g22_ok (vs : List V) (v : V) (h : g22 vs = some (true, v)) : (∀ μ μ', v.den μ' = v.den μ) ∧ ∀ μ w, PureAt Tryd.prog 22 (vs.map (V.den μ)).toArray (v.den μ) w := by
  unfold g22 at h
  split at h
  · simp only [Option.some.injEq, Prod.mk.injEq] at h
    obtain ⟨h, rfl⟩ := h
    exact pure_ok (F := o41) (N := 300) (fn := Tryd.f22) (args := [_, _]) (r := _) (n := 10) hM o41_ok GE_ok Tryd.func22 (by kernel_rfl) (by kernel_rfl) (by kernel_rfl) (by kernel_rfl) (d22_a h) (by kernel_rfl)
  · cases h
theorem d24_t (a b c : Nat → Int) (r : V) : awp Tryd.prog o41 GE 300 (body Tryd.f24) (ends Tryd.prog Tryd.f24 fun v _ => okV r v) ⟨[V.ints .u8 32 a, V.ints .u8 32 b, V.ints .u8 32 c] ++ List.replicate 14 V.un, []⟩ = (((∀ (e1 : Nat) (ff2 : Nat → Int), (((∀ (e3 : Nat) (ff4 : Nat → Int), ((gB (byO 32 (apx 32 (fun j => IntKind.wrap .i64 (a j)) ff2) && byO 32 (apx 32 (fun j => IntKind.wrap .i64 (b j)) ff4)) (∀ (e5 : Nat) (ff6 : Nat → Int), (∀ (e7 : Nat) (ff8 : Nat → Int), (∀ (e9 : Nat) (ff10 : Nat → Int), (gB (byO 65 (apx 65 (sumV 64 (apx 64 (prdO (apx 32 (fun j => IntKind.wrap .i64 (a j)) ff2) (apx 32 (fun j => IntKind.wrap .i64 (b j)) ff4)) ff6) 32 (apx 32 (fun j => IntKind.wrap .i64 (c j)) ff8)) ff10)) (∀ (e11 : Nat) (ff12 : Nat → Int), (okV r (V.ints .u8 32 (tellO 33 (apx 33 (modO 65 (apx 65 (sumV 64 (apx 64 (prdO (apx 32 (fun j => IntKind.wrap .i64 (a j)) ff2) (apx 32 (fun j => IntKind.wrap .i64 (b j)) ff4)) ff6) 32 (apx 32 (fun j => IntKind.wrap .i64 (c j)) ff8)) ff10)) ff12)))))))))) ∧ (gB (byO 32 (apx 32 (fun j => IntKind.wrap .i64 (a j)) ff2) && byO 32 (apx 32 (fun j => IntKind.wrap .i64 (b j)) ff4)) (∀ (e13 : Nat) (ff14 : Nat → Int), (∀ (e15 : Nat) (ff16 : Nat → Int), (∀ (e17 : Nat) (ff18 : Nat → Int), (gB (byO 65 (apx 65 (sumV 64 (apx 64 (prdO (apx 32 (fun j => IntKind.wrap .i64 (a j)) ff2) (apx 32 (fun j => IntKind.wrap .i64 (b j)) ff4)) ff14) 32 (apx 32 (fun j => IntKind.wrap .i64 (c j)) ff16)) ff18)) (∀ (e19 : Nat) (ff20 : Nat → Int), (okV r (V.ints .u8 32 (tellO 33 (apx 33 (modO 65 (apx 65 (sumV 64 (apx 64 (prdO (apx 32 (fun j => IntKind.wrap .i64 (a j)) ff2) (apx 32 (fun j => IntKind.wrap .i64 (b j)) ff4)) ff14) 32 (apx 32 (fun j => IntKind.wrap .i64 (c j)) ff16)) ff18)) ff20)))))))))))) ∧ (∀ (e21 : Nat) (ff22 : Nat → Int), (gB (byO 32 (apx 32 (fun j => IntKind.wrap .i64 (a j)) ff2) && byO 32 (apx 32 (fun j => IntKind.wrap .i64 (b j)) ff22)) (∀ (e23 : Nat) (ff24 : Nat → Int), (∀ (e25 : Nat) (ff26 : Nat → Int), (∀ (e27 : Nat) (ff28 : Nat → Int), (gB (byO 65 (apx 65 (sumV 64 (apx 64 (prdO (apx 32 (fun j => IntKind.wrap .i64 (a j)) ff2) (apx 32 (fun j => IntKind.wrap .i64 (b j)) ff22)) ff24) 32 (apx 32 (fun j => IntKind.wrap .i64 (c j)) ff26)) ff28)) (∀ (e29 : Nat) (ff30 : Nat → Int), (okV r (V.ints .u8 32 (tellO 33 (apx 33 (modO 65 (apx 65 (sumV 64 (apx 64 (prdO (apx 32 (fun j => IntKind.wrap .i64 (a j)) ff2) (apx 32 (fun j => IntKind.wrap .i64 (b j)) ff22)) ff24) 32 (apx 32 (fun j => IntKind.wrap .i64 (c j)) ff26)) ff28)) ff30)))))))))))) ∧ (∀ (e31 : Nat) (ff32 : Nat → Int), (gB (byO 32 (apx 32 (fun j => IntKind.wrap .i64 (a j)) ff2) && byO 32 (apx 32 (fun j => IntKind.wrap .i64 (b j)) ff32)) (∀ (e33 : Nat) (ff34 : Nat → Int), (∀ (e35 : Nat) (ff36 : Nat → Int), (∀ (e37 : Nat) (ff38 : Nat → Int), (gB (byO 65 (apx 65 (sumV 64 (apx 64 (prdO (apx 32 (fun j => IntKind.wrap .i64 (a j)) ff2) (apx 32 (fun j => IntKind.wrap .i64 (b j)) ff32)) ff34) 32 (apx 32 (fun j => IntKind.wrap .i64 (c j)) ff36)) ff38)) (∀ (e39 : Nat) (ff40 : Nat → Int), (okV r (V.ints .u8 32 (tellO 33 (apx 33 (modO 65 (apx 65 (sumV 64 (apx 64 (prdO (apx 32 (fun j => IntKind.wrap .i64 (a j)) ff2) (apx 32 (fun j => IntKind.wrap .i64 (b j)) ff32)) ff34) 32 (apx 32 (fun j => IntKind.wrap .i64 (c j)) ff36)) ff38)) ff40))))))))))))) ∧ (((∀ (e41 : Nat) (ff42 : Nat → Int), ((∀ (e43 : Nat) (ff44 : Nat → Int), ((gB (byO 32 (apx 32 (fun j => IntKind.wrap .i64 (a j)) ff42) && byO 32 (apx 32 (fun j => IntKind.wrap .i64 (b j)) ff44)) (∀ (e45 : Nat) (ff46 : Nat → Int), (∀ (e47 : Nat) (ff48 : Nat → Int), (∀ (e49 : Nat) (ff50 : Nat → Int), (gB (byO 65 (apx 65 (sumV 64 (apx 64 (prdO (apx 32 (fun j => IntKind.wrap .i64 (a j)) ff42) (apx 32 (fun j => IntKind.wrap .i64 (b j)) ff44)) ff46) 32 (apx 32 (fun j => IntKind.wrap .i64 (c j)) ff48)) ff50)) (∀ (e51 : Nat) (ff52 : Nat → Int), (okV r (V.ints .u8 32 (tellO 33 (apx 33 (modO 65 (apx 65 (sumV 64 (apx 64 (prdO (apx 32 (fun j => IntKind.wrap .i64 (a j)) ff42) (apx 32 (fun j => IntKind.wrap .i64 (b j)) ff44)) ff46) 32 (apx 32 (fun j => IntKind.wrap .i64 (c j)) ff48)) ff50)) ff52)))))))))) ∧ (gB (byO 32 (apx 32 (fun j => IntKind.wrap .i64 (a j)) ff42) && byO 32 (apx 32 (fun j => IntKind.wrap .i64 (b j)) ff44)) (∀ (e53 : Nat) (ff54 : Nat → Int), (∀ (e55 : Nat) (ff56 : Nat → Int), (∀ (e57 : Nat) (ff58 : Nat → Int), (gB (byO 65 (apx 65 (sumV 64 (apx 64 (prdO (apx 32 (fun j => IntKind.wrap .i64 (a j)) ff42) (apx 32 (fun j => IntKind.wrap .i64 (b j)) ff44)) ff54) 32 (apx 32 (fun j => IntKind.wrap .i64 (c j)) ff56)) ff58)) (∀ (e59 : Nat) (ff60 : Nat → Int), (okV r (V.ints .u8 32 (tellO 33 (apx 33 (modO 65 (apx 65 (sumV 64 (apx 64 (prdO (apx 32 (fun j => IntKind.wrap .i64 (a j)) ff42) (apx 32 (fun j => IntKind.wrap .i64 (b j)) ff44)) ff54) 32 (apx 32 (fun j => IntKind.wrap .i64 (c j)) ff56)) ff58)) ff60)))))))))))) ∧ (∀ (e61 : Nat) (ff62 : Nat → Int), (gB (byO 32 (apx 32 (fun j => IntKind.wrap .i64 (a j)) ff42) && byO 32 (apx 32 (fun j => IntKind.wrap .i64 (b j)) ff62)) (∀ (e63 : Nat) (ff64 : Nat → Int), (∀ (e65 : Nat) (ff66 : Nat → Int), (∀ (e67 : Nat) (ff68 : Nat → Int), (gB (byO 65 (apx 65 (sumV 64 (apx 64 (prdO (apx 32 (fun j => IntKind.wrap .i64 (a j)) ff42) (apx 32 (fun j => IntKind.wrap .i64 (b j)) ff62)) ff64) 32 (apx 32 (fun j => IntKind.wrap .i64 (c j)) ff66)) ff68)) (∀ (e69 : Nat) (ff70 : Nat → Int), (okV r (V.ints .u8 32 (tellO 33 (apx 33 (modO 65 (apx 65 (sumV 64 (apx 64 (prdO (apx 32 (fun j => IntKind.wrap .i64 (a j)) ff42) (apx 32 (fun j => IntKind.wrap .i64 (b j)) ff62)) ff64) 32 (apx 32 (fun j => IntKind.wrap .i64 (c j)) ff66)) ff68)) ff70))))))))))))) ∧ (∀ (e71 : Nat) (ff72 : Nat → Int), (∀ (e73 : Nat) (ff74 : Nat → Int), (gB (byO 32 (apx 32 (fun j => IntKind.wrap .i64 (a j)) ff72) && byO 32 (apx 32 (fun j => IntKind.wrap .i64 (b j)) ff74)) (∀ (e75 : Nat) (ff76 : Nat → Int), (∀ (e77 : Nat) (ff78 : Nat → Int), (∀ (e79 : Nat) (ff80 : Nat → Int), (gB (byO 65 (apx 65 (sumV 64 (apx 64 (prdO (apx 32 (fun j => IntKind.wrap .i64 (a j)) ff72) (apx 32 (fun j => IntKind.wrap .i64 (b j)) ff74)) ff76) 32 (apx 32 (fun j => IntKind.wrap .i64 (c j)) ff78)) ff80)) (∀ (e81 : Nat) (ff82 : Nat → Int), (okV r (V.ints .u8 32 (tellO 33 (apx 33 (modO 65 (apx 65 (sumV 64 (apx 64 (prdO (apx 32 (fun j => IntKind.wrap .i64 (a j)) ff72) (apx 32 (fun j => IntKind.wrap .i64 (b j)) ff74)) ff76) 32 (apx 32 (fun j => IntKind.wrap .i64 (c j)) ff78)) ff80)) ff82))))))))))))) ∧ ((∀ (e83 : Nat) (ff84 : Nat → Int), (∀ (e85 : Nat) (ff86 : Nat → Int), (gB (byO 32 (apx 32 (fun j => IntKind.wrap .i64 (a j)) ff84) && byO 32 (apx 32 (fun j => IntKind.wrap .i64 (b j)) ff86)) (∀ (e87 : Nat) (ff88 : Nat → Int), (∀ (e89 : Nat) (ff90 : Nat → Int), (∀ (e91 : Nat) (ff92 : Nat → Int), (gB (byO 65 (apx 65 (sumV 64 (apx 64 (prdO (apx 32 (fun j => IntKind.wrap .i64 (a j)) ff84) (apx 32 (fun j => IntKind.wrap .i64 (b j)) ff86)) ff88) 32 (apx 32 (fun j => IntKind.wrap .i64 (c j)) ff90)) ff92)) (∀ (e93 : Nat) (ff94 : Nat → Int), (okV r (V.ints .u8 32 (tellO 33 (apx 33 (modO 65 (apx 65 (sumV 64 (apx 64 (prdO (apx 32 (fun j => IntKind.wrap .i64 (a j)) ff84) (apx 32 (fun j => IntKind.wrap .i64 (b j)) ff86)) ff88) 32 (apx 32 (fun j => IntKind.wrap .i64 (c j)) ff90)) ff92)) ff94)))))))))))) ∧ (∀ (e95 : Nat) (ff96 : Nat → Int), (∀ (e97 : Nat) (ff98 : Nat → Int), (gB (byO 32 (apx 32 (fun j => IntKind.wrap .i64 (a j)) ff96) && byO 32 (apx 32 (fun j => IntKind.wrap .i64 (b j)) ff98)) (∀ (e99 : Nat) (ff100 : Nat → Int), (∀ (e101 : Nat) (ff102 : Nat → Int), (∀ (e103 : Nat) (ff104 : Nat → Int), (gB (byO 65 (apx 65 (sumV 64 (apx 64 (prdO (apx 32 (fun j => IntKind.wrap .i64 (a j)) ff96) (apx 32 (fun j => IntKind.wrap .i64 (b j)) ff98)) ff100) 32 (apx 32 (fun j => IntKind.wrap .i64 (c j)) ff102)) ff104)) (∀ (e105 : Nat) (ff106 : Nat → Int), (okV r (V.ints .u8 32 (tellO 33 (apx 33 (modO 65 (apx 65 (sumV 64 (apx 64 (prdO (apx 32 (fun j => IntKind.wrap .i64 (a j)) ff96) (apx 32 (fun j => IntKind.wrap .i64 (b j)) ff98)) ff100) 32 (apx 32 (fun j => IntKind.wrap .i64 (c j)) ff102)) ff104)) ff106))))))))))))))) ∧ ((((∀ (e107 : Nat) (ff108 : Nat → Int), ((∀ (e109 : Nat) (ff110 : Nat → Int), ((gB (byO 32 (apx 32 (fun j => IntKind.wrap .i64 (a j)) ff108) && byO 32 (apx 32 (fun j => IntKind.wrap .i64 (b j)) ff110)) (∀ (e111 : Nat) (ff112 : Nat → Int), (∀ (e113 : Nat) (ff114 : Nat → Int), (∀ (e115 : Nat) (ff116 : Nat → Int), (gB (byO 65 (apx 65 (sumV 64 (apx 64 (prdO (apx 32 (fun j => IntKind.wrap .i64 (a j)) ff108) (apx 32 (fun j => IntKind.wrap .i64 (b j)) ff110)) ff112) 32 (apx 32 (fun j => IntKind.wrap .i64 (c j)) ff114)) ff116)) (∀ (e117 : Nat) (ff118 : Nat → Int), (okV r (V.ints .u8 32 (tellO 33 (apx 33 (modO 65 (apx 65 (sumV 64 (apx 64 (prdO (apx 32 (fun j => IntKind.wrap .i64 (a j)) ff108) (apx 32 (fun j => IntKind.wrap .i64 (b j)) ff110)) ff112) 32 (apx 32 (fun j => IntKind.wrap .i64 (c j)) ff114)) ff116)) ff118)))))))))) ∧ (gB (byO 32 (apx 32 (fun j => IntKind.wrap .i64 (a j)) ff108) && byO 32 (apx 32 (fun j => IntKind.wrap .i64 (b j)) ff110)) (∀ (e119 : Nat) (ff120 : Nat → Int), (∀ (e121 : Nat) (ff122 : Nat → Int), (∀ (e123 : Nat) (ff124 : Nat → Int), (gB (byO 65 (apx 65 (sumV 64 (apx 64 (prdO (apx 32 (fun j => IntKind.wrap .i64 (a j)) ff108) (apx 32 (fun j => IntKind.wrap .i64 (b j)) ff110)) ff120) 32 (apx 32 (fun j => IntKind.wrap .i64 (c j)) ff122)) ff124)) (∀ (e125 : Nat) (ff126 : Nat → Int), (okV r (V.ints .u8 32 (tellO 33 (apx 33 (modO 65 (apx 65 (sumV 64 (apx 64 (prdO (apx 32 (fun j => IntKind.wrap .i64 (a j)) ff108) (apx 32 (fun j => IntKind.wrap .i64 (b j)) ff110)) ff120) 32 (apx 32 (fun j => IntKind.wrap .i64 (c j)) ff122)) ff124)) ff126)))))))))))) ∧ (∀ (e127 : Nat) (ff128 : Nat → Int), (gB (byO 32 (apx 32 (fun j => IntKind.wrap .i64 (a j)) ff108) && byO 32 (apx 32 (fun j => IntKind.wrap .i64 (b j)) ff128)) (∀ (e129 : Nat) (ff130 : Nat → Int), (∀ (e131 : Nat) (ff132 : Nat → Int), (∀ (e133 : Nat) (ff134 : Nat → Int), (gB (byO 65 (apx 65 (sumV 64 (apx 64 (prdO (apx 32 (fun j => IntKind.wrap .i64 (a j)) ff108) (apx 32 (fun j => IntKind.wrap .i64 (b j)) ff128)) ff130) 32 (apx 32 (fun j => IntKind.wrap .i64 (c j)) ff132)) ff134)) (∀ (e135 : Nat) (ff136 : Nat → Int), (okV r (V.ints .u8 32 (tellO 33 (apx 33 (modO 65 (apx 65 (sumV 64 (apx 64 (prdO (apx 32 (fun j => IntKind.wrap .i64 (a j)) ff108) (apx 32 (fun j => IntKind.wrap .i64 (b j)) ff128)) ff130) 32 (apx 32 (fun j => IntKind.wrap .i64 (c j)) ff132)) ff134)) ff136))))))))))))) ∧ (∀ (e137 : Nat) (ff138 : Nat → Int), (∀ (e139 : Nat) (ff140 : Nat → Int), (gB (byO 32 (apx 32 (fun j => IntKind.wrap .i64 (a j)) ff138) && byO 32 (apx 32 (fun j => IntKind.wrap .i64 (b j)) ff140)) (∀ (e141 : Nat) (ff142 : Nat → Int), (∀ (e143 : Nat) (ff144 : Nat → Int), (∀ (e145 : Nat) (ff146 : Nat → Int), (gB (byO 65 (apx 65 (sumV 64 (apx 64 (prdO (apx 32 (fun j => IntKind.wrap .i64 (a j)) ff138) (apx 32 (fun j => IntKind.wrap .i64 (b j)) ff140)) ff142) 32 (apx 32 (fun j => IntKind.wrap .i64 (c j)) ff144)) ff146)) (∀ (e147 : Nat) (ff148 : Nat → Int), (okV r (V.ints .u8 32 (tellO 33 (apx 33 (modO 65 (apx 65 (sumV 64 (apx 64 (prdO (apx 32 (fun j => IntKind.wrap .i64 (a j)) ff138) (apx 32 (fun j => IntKind.wrap .i64 (b j)) ff140)) ff142) 32 (apx 32 (fun j => IntKind.wrap .i64 (c j)) ff144)) ff146)) ff148))))))))))))) ∧ (∀ (e149 : Nat) (ff150 : Nat → Int), (∀ (e151 : Nat) (ff152 : Nat → Int), (gB (byO 32 (apx 32 (fun j => IntKind.wrap .i64 (a j)) ff150) && byO 32 (apx 32 (fun j => IntKind.wrap .i64 (b j)) ff152)) (∀ (e153 : Nat) (ff154 : Nat → Int), (∀ (e155 : Nat) (ff156 : Nat → Int), (∀ (e157 : Nat) (ff158 : Nat → Int), (gB (byO 65 (apx 65 (sumV 64 (apx 64 (prdO (apx 32 (fun j => IntKind.wrap .i64 (a j)) ff150) (apx 32 (fun j => IntKind.wrap .i64 (b j)) ff152)) ff154) 32 (apx 32 (fun j => IntKind.wrap .i64 (c j)) ff156)) ff158)) (∀ (e159 : Nat) (ff160 : Nat → Int), (okV r (V.ints .u8 32 (tellO 33 (apx 33 (modO 65 (apx 65 (sumV 64 (apx 64 (prdO (apx 32 (fun j => IntKind.wrap .i64 (a j)) ff150) (apx 32 (fun j => IntKind.wrap .i64 (b j)) ff152)) ff154) 32 (apx 32 (fun j => IntKind.wrap .i64 (c j)) ff156)) ff158)) ff160))))))))))))) ∧ (((∀ (e161 : Nat) (ff162 : Nat → Int), (∀ (e163 : Nat) (ff164 : Nat → Int), (gB (byO 32 (apx 32 (fun j => IntKind.wrap .i64 (a j)) ff162) && byO 32 (apx 32 (fun j => IntKind.wrap .i64 (b j)) ff164)) (∀ (e165 : Nat) (ff166 : Nat → Int), (∀ (e167 : Nat) (ff168 : Nat → Int), (∀ (e169 : Nat) (ff170 : Nat → Int), (gB (byO 65 (apx 65 (sumV 64 (apx 64 (prdO (apx 32 (fun j => IntKind.wrap .i64 (a j)) ff162) (apx 32 (fun j => IntKind.wrap .i64 (b j)) ff164)) ff166) 32 (apx 32 (fun j => IntKind.wrap .i64 (c j)) ff168)) ff170)) (∀ (e171 : Nat) (ff172 : Nat → Int), (okV r (V.ints .u8 32 (tellO 33 (apx 33 (modO 65 (apx 65 (sumV 64 (apx 64 (prdO (apx 32 (fun j => IntKind.wrap .i64 (a j)) ff162) (apx 32 (fun j => IntKind.wrap .i64 (b j)) ff164)) ff166) 32 (apx 32 (fun j => IntKind.wrap .i64 (c j)) ff168)) ff170)) ff172)))))))))))) ∧ (∀ (e173 : Nat) (ff174 : Nat → Int), (∀ (e175 : Nat) (ff176 : Nat → Int), (gB (byO 32 (apx 32 (fun j => IntKind.wrap .i64 (a j)) ff174) && byO 32 (apx 32 (fun j => IntKind.wrap .i64 (b j)) ff176)) (∀ (e177 : Nat) (ff178 : Nat → Int), (∀ (e179 : Nat) (ff180 : Nat → Int), (∀ (e181 : Nat) (ff182 : Nat → Int), (gB (byO 65 (apx 65 (sumV 64 (apx 64 (prdO (apx 32 (fun j => IntKind.wrap .i64 (a j)) ff174) (apx 32 (fun j => IntKind.wrap .i64 (b j)) ff176)) ff178) 32 (apx 32 (fun j => IntKind.wrap .i64 (c j)) ff180)) ff182)) (∀ (e183 : Nat) (ff184 : Nat → Int), (okV r (V.ints .u8 32 (tellO 33 (apx 33 (modO 65 (apx 65 (sumV 64 (apx 64 (prdO (apx 32 (fun j => IntKind.wrap .i64 (a j)) ff174) (apx 32 (fun j => IntKind.wrap .i64 (b j)) ff176)) ff178) 32 (apx 32 (fun j => IntKind.wrap .i64 (c j)) ff180)) ff182)) ff184))))))))))))) ∧ (∀ (e185 : Nat) (ff186 : Nat → Int), (∀ (e187 : Nat) (ff188 : Nat → Int), (gB (byO 32 (apx 32 (fun j => IntKind.wrap .i64 (a j)) ff186) && byO 32 (apx 32 (fun j => IntKind.wrap .i64 (b j)) ff188)) (∀ (e189 : Nat) (ff190 : Nat → Int), (∀ (e191 : Nat) (ff192 : Nat → Int), (∀ (e193 : Nat) (ff194 : Nat → Int), (gB (byO 65 (apx 65 (sumV 64 (apx 64 (prdO (apx 32 (fun j => IntKind.wrap .i64 (a j)) ff186) (apx 32 (fun j => IntKind.wrap .i64 (b j)) ff188)) ff190) 32 (apx 32 (fun j => IntKind.wrap .i64 (c j)) ff192)) ff194)) (∀ (e195 : Nat) (ff196 : Nat → Int), (okV r (V.ints .u8 32 (tellO 33 (apx 33 (modO 65 (apx 65 (sumV 64 (apx 64 (prdO (apx 32 (fun j => IntKind.wrap .i64 (a j)) ff186) (apx 32 (fun j => IntKind.wrap .i64 (b j)) ff188)) ff190) 32 (apx 32 (fun j => IntKind.wrap .i64 (c j)) ff192)) ff194)) ff196))))))))))))))) := by kernel_rfl
theorem d24_a {a b c : Nat → Int} (hg : (byO 32 a && (byO 32 b && byO 32 c)) = true) : awp Tryd.prog o41 GE 300 (body Tryd.f24) (ends Tryd.prog Tryd.f24 fun v _ => okV (V.ints .u8 32 (addO (mulO a b) c)) v) ⟨[V.ints .u8 32 a, V.ints .u8 32 b, V.ints .u8 32 c] ++ List.replicate 14 V.un, []⟩ := by
  rw [d24_t]
  have ha := byO_at (and_l hg)
  have hb := byO_at (and_l (and_r hg))
  have hc := byO_at (and_r (and_r hg))
  refine ⟨?_, ?_⟩
  · refine ⟨?_, ?_⟩
    · intro e1 ff2
      have h0 := nm_of ff2 ha
      refine ⟨?_, ?_⟩
      · refine ⟨?_, ?_⟩
        · intro e3 ff4
          have h1 := nm_of ff4 hb
          refine ⟨?_, ?_⟩
          · refine gm (both (byO_mk h0.1) (byO_mk h1.1)) ?_
            intro e5 ff6
            have h2 := nm_prd ff6 h0 h1
            intro e7 ff8
            have h3 := nm_of ff8 hc
            intro e9 ff10
            have h4 := nm_sum ff10 h2 h3 rfl
            refine gm (byO_mk h4.1) ?_
            intro e11 ff12
            have h5 := nm_mod ff12 h4
            refine okV_ints ?_
            refine (nm_tell h5 (mod_nn _).2).trans ?_
            rw [add_st, num_add, num_mul, ea, num_bytes ha, num_bytes hb, num_bytes hc]
          · refine gm (both (byO_mk h0.1) (byO_mk h1.1)) ?_
            intro e13 ff14
            have h2 := nm_prd ff14 h0 h1
            intro e15 ff16
            have h3 := nm_of ff16 hc
            intro e17 ff18
            have h4 := nm_sum ff18 h2 h3 rfl
            refine gm (byO_mk h4.1) ?_
            intro e19 ff20
            have h5 := nm_mod ff20 h4
            refine okV_ints ?_
            refine (nm_tell h5 (mod_nn _).2).trans ?_
            rw [add_st, num_add, num_mul, ea, num_bytes ha, num_bytes hb, num_bytes hc]
        · intro e21 ff22
          have h1 := nm_of ff22 hb
          refine gm (both (byO_mk h0.1) (byO_mk h1.1)) ?_
          intro e23 ff24
          have h2 := nm_prd ff24 h0 h1
          intro e25 ff26
          have h3 := nm_of ff26 hc
          intro e27 ff28
          have h4 := nm_sum ff28 h2 h3 rfl
          refine gm (byO_mk h4.1) ?_
          intro e29 ff30
          have h5 := nm_mod ff30 h4
          refine okV_ints ?_
          refine (nm_tell h5 (mod_nn _).2).trans ?_
          rw [add_st, num_add, num_mul, ea, num_bytes ha, num_bytes hb, num_bytes hc]
      · intro e31 ff32
        have h1 := nm_of ff32 hb
        refine gm (both (byO_mk h0.1) (byO_mk h1.1)) ?_
        intro e33 ff34
        have h2 := nm_prd ff34 h0 h1
        intro e35 ff36
        have h3 := nm_of ff36 hc
        intro e37 ff38
        have h4 := nm_sum ff38 h2 h3 rfl
        refine gm (byO_mk h4.1) ?_
        intro e39 ff40
        have h5 := nm_mod ff40 h4
        refine okV_ints ?_
        refine (nm_tell h5 (mod_nn _).2).trans ?_
        rw [add_st, num_add, num_mul, ea, num_bytes ha, num_bytes hb, num_bytes hc]
    · refine ⟨?_, ?_⟩
      · refine ⟨?_, ?_⟩
        · intro e41 ff42
          have h0 := nm_of ff42 ha
          refine ⟨?_, ?_⟩
          · intro e43 ff44
            have h1 := nm_of ff44 hb
            refine ⟨?_, ?_⟩
            · refine gm (both (byO_mk h0.1) (byO_mk h1.1)) ?_
              intro e45 ff46
              have h2 := nm_prd ff46 h0 h1
              intro e47 ff48
              have h3 := nm_of ff48 hc
              intro e49 ff50
              have h4 := nm_sum ff50 h2 h3 rfl
              refine gm (byO_mk h4.1) ?_
              intro e51 ff52
              have h5 := nm_mod ff52 h4
              refine okV_ints ?_
              refine (nm_tell h5 (mod_nn _).2).trans ?_
              rw [add_st, num_add, num_mul, ea, num_bytes ha, num_bytes hb, num_bytes hc]
            · refine gm (both (byO_mk h0.1) (byO_mk h1.1)) ?_
              intro e53 ff54
              have h2 := nm_prd ff54 h0 h1
              intro e55 ff56
              have h3 := nm_of ff56 hc
              intro e57 ff58
              have h4 := nm_sum ff58 h2 h3 rfl
              refine gm (byO_mk h4.1) ?_
              intro e59 ff60
              have h5 := nm_mod ff60 h4
              refine okV_ints ?_
              refine (nm_tell h5 (mod_nn _).2).trans ?_
              rw [add_st, num_add, num_mul, ea, num_bytes ha, num_bytes hb, num_bytes hc]
          · intro e61 ff62
            have h1 := nm_of ff62 hb
            refine gm (both (byO_mk h0.1) (byO_mk h1.1)) ?_
            intro e63 ff64
            have h2 := nm_prd ff64 h0 h1
            intro e65 ff66
            have h3 := nm_of ff66 hc
            intro e67 ff68
            have h4 := nm_sum ff68 h2 h3 rfl
            refine gm (byO_mk h4.1) ?_
            intro e69 ff70
            have h5 := nm_mod ff70 h4
            refine okV_ints ?_
            refine (nm_tell h5 (mod_nn _).2).trans ?_
            rw [add_st, num_add, num_mul, ea, num_bytes ha, num_bytes hb, num_bytes hc]
        · intro e71 ff72
          have h0 := nm_of ff72 ha
          intro e73 ff74
          have h1 := nm_of ff74 hb
          refine gm (both (byO_mk h0.1) (byO_mk h1.1)) ?_
          intro e75 ff76
          have h2 := nm_prd ff76 h0 h1
          intro e77 ff78
          have h3 := nm_of ff78 hc
          intro e79 ff80
          have h4 := nm_sum ff80 h2 h3 rfl
          refine gm (byO_mk h4.1) ?_
          intro e81 ff82
          have h5 := nm_mod ff82 h4
          refine okV_ints ?_
          refine (nm_tell h5 (mod_nn _).2).trans ?_
          rw [add_st, num_add, num_mul, ea, num_bytes ha, num_bytes hb, num_bytes hc]
      · refine ⟨?_, ?_⟩
        · intro e83 ff84
          have h0 := nm_of ff84 ha
          intro e85 ff86
          have h1 := nm_of ff86 hb
          refine gm (both (byO_mk h0.1) (byO_mk h1.1)) ?_
          intro e87 ff88
          have h2 := nm_prd ff88 h0 h1
          intro e89 ff90
          have h3 := nm_of ff90 hc
          intro e91 ff92
          have h4 := nm_sum ff92 h2 h3 rfl
          refine gm (byO_mk h4.1) ?_
          intro e93 ff94
          have h5 := nm_mod ff94 h4
          refine okV_ints ?_
          refine (nm_tell h5 (mod_nn _).2).trans ?_
          rw [add_st, num_add, num_mul, ea, num_bytes ha, num_bytes hb, num_bytes hc]
        · intro e95 ff96
          have h0 := nm_of ff96 ha
          intro e97 ff98
          have h1 := nm_of ff98 hb
          refine gm (both (byO_mk h0.1) (byO_mk h1.1)) ?_
          intro e99 ff100
          have h2 := nm_prd ff100 h0 h1
          intro e101 ff102
          have h3 := nm_of ff102 hc
          intro e103 ff104
          have h4 := nm_sum ff104 h2 h3 rfl
          refine gm (byO_mk h4.1) ?_
          intro e105 ff106
          have h5 := nm_mod ff106 h4
          refine okV_ints ?_
          refine (nm_tell h5 (mod_nn _).2).trans ?_
          rw [add_st, num_add, num_mul, ea, num_bytes ha, num_bytes hb, num_bytes hc]
  · refine ⟨?_, ?_⟩
    · refine ⟨?_, ?_⟩
      · refine ⟨?_, ?_⟩
        · intro e107 ff108
          have h0 := nm_of ff108 ha
          refine ⟨?_, ?_⟩
          · intro e109 ff110
            have h1 := nm_of ff110 hb
            refine ⟨?_, ?_⟩
            · refine gm (both (byO_mk h0.1) (byO_mk h1.1)) ?_
              intro e111 ff112
              have h2 := nm_prd ff112 h0 h1
              intro e113 ff114
              have h3 := nm_of ff114 hc
              intro e115 ff116
              have h4 := nm_sum ff116 h2 h3 rfl
              refine gm (byO_mk h4.1) ?_
              intro e117 ff118
              have h5 := nm_mod ff118 h4
              refine okV_ints ?_
              refine (nm_tell h5 (mod_nn _).2).trans ?_
              rw [add_st, num_add, num_mul, ea, num_bytes ha, num_bytes hb, num_bytes hc]
            · refine gm (both (byO_mk h0.1) (byO_mk h1.1)) ?_
              intro e119 ff120
              have h2 := nm_prd ff120 h0 h1
              intro e121 ff122
              have h3 := nm_of ff122 hc
              intro e123 ff124
              have h4 := nm_sum ff124 h2 h3 rfl
              refine gm (byO_mk h4.1) ?_
              intro e125 ff126
              have h5 := nm_mod ff126 h4
              refine okV_ints ?_
              refine (nm_tell h5 (mod_nn _).2).trans ?_
              rw [add_st, num_add, num_mul, ea, num_bytes ha, num_bytes hb, num_bytes hc]
          · intro e127 ff128
            have h1 := nm_of ff128 hb
            refine gm (both (byO_mk h0.1) (byO_mk h1.1)) ?_
            intro e129 ff130
            have h2 := nm_prd ff130 h0 h1
            intro e131 ff132
            have h3 := nm_of ff132 hc
            intro e133 ff134
            have h4 := nm_sum ff134 h2 h3 rfl
            refine gm (byO_mk h4.1) ?_
            intro e135 ff136
            have h5 := nm_mod ff136 h4
            refine okV_ints ?_
            refine (nm_tell h5 (mod_nn _).2).trans ?_
            rw [add_st, num_add, num_mul, ea, num_bytes ha, num_bytes hb, num_bytes hc]
        · intro e137 ff138
          have h0 := nm_of ff138 ha
          intro e139 ff140
          have h1 := nm_of ff140 hb
          refine gm (both (byO_mk h0.1) (byO_mk h1.1)) ?_
          intro e141 ff142
          have h2 := nm_prd ff142 h0 h1
          intro e143 ff144
          have h3 := nm_of ff144 hc
          intro e145 ff146
          have h4 := nm_sum ff146 h2 h3 rfl
          refine gm (byO_mk h4.1) ?_
          intro e147 ff148
          have h5 := nm_mod ff148 h4
          refine okV_ints ?_
          refine (nm_tell h5 (mod_nn _).2).trans ?_
          rw [add_st, num_add, num_mul, ea, num_bytes ha, num_bytes hb, num_bytes hc]
      · intro e149 ff150
        have h0 := nm_of ff150 ha
        intro e151 ff152
        have h1 := nm_of ff152 hb
        refine gm (both (byO_mk h0.1) (byO_mk h1.1)) ?_
        intro e153 ff154
        have h2 := nm_prd ff154 h0 h1
        intro e155 ff156
        have h3 := nm_of ff156 hc
        intro e157 ff158
        have h4 := nm_sum ff158 h2 h3 rfl
        refine gm (byO_mk h4.1) ?_
        intro e159 ff160
        have h5 := nm_mod ff160 h4
        refine okV_ints ?_
        refine (nm_tell h5 (mod_nn _).2).trans ?_
        rw [add_st, num_add, num_mul, ea, num_bytes ha, num_bytes hb, num_bytes hc]
    · refine ⟨?_, ?_⟩
      · refine ⟨?_, ?_⟩
        · intro e161 ff162
          have h0 := nm_of ff162 ha
          intro e163 ff164
          have h1 := nm_of ff164 hb
          refine gm (both (byO_mk h0.1) (byO_mk h1.1)) ?_
          intro e165 ff166
          have h2 := nm_prd ff166 h0 h1
          intro e167 ff168
          have h3 := nm_of ff168 hc
          intro e169 ff170
          have h4 := nm_sum ff170 h2 h3 rfl
          refine gm (byO_mk h4.1) ?_
          intro e171 ff172
          have h5 := nm_mod ff172 h4
          refine okV_ints ?_
          refine (nm_tell h5 (mod_nn _).2).trans ?_
          rw [add_st, num_add, num_mul, ea, num_bytes ha, num_bytes hb, num_bytes hc]
        · intro e173 ff174
          have h0 := nm_of ff174 ha
          intro e175 ff176
          have h1 := nm_of ff176 hb
          refine gm (both (byO_mk h0.1) (byO_mk h1.1)) ?_
          intro e177 ff178
          have h2 := nm_prd ff178 h0 h1
          intro e179 ff180
          have h3 := nm_of ff180 hc
          intro e181 ff182
          have h4 := nm_sum ff182 h2 h3 rfl
          refine gm (byO_mk h4.1) ?_
          intro e183 ff184
          have h5 := nm_mod ff184 h4
          refine okV_ints ?_
          refine (nm_tell h5 (mod_nn _).2).trans ?_
          rw [add_st, num_add, num_mul, ea, num_bytes ha, num_bytes hb, num_bytes hc]
      · intro e185 ff186
        have h0 := nm_of ff186 ha
        intro e187 ff188
        have h1 := nm_of ff188 hb
        refine gm (both (byO_mk h0.1) (byO_mk h1.1)) ?_
        intro e189 ff190
        have h2 := nm_prd ff190 h0 h1
        intro e191 ff192
        have h3 := nm_of ff192 hc
        intro e193 ff194
        have h4 := nm_sum ff194 h2 h3 rfl
        refine gm (byO_mk h4.1) ?_
        intro e195 ff196
        have h5 := nm_mod ff196 h4
        refine okV_ints ?_
        refine (nm_tell h5 (mod_nn _).2).trans ?_
        rw [add_st, num_add, num_mul, ea, num_bytes ha, num_bytes hb, num_bytes hc]
noncomputable def g24 : List V → Option (Bool × V) := fun | [.ints .u8 32 a, .ints .u8 32 b, .ints .u8 32 c] => some ((byO 32 a && (byO 32 b && byO 32 c)), (V.ints .u8 32 (addO (mulO a b) c))) | _ => none
theorem g24_ok (vs : List V) (v : V) (h : g24 vs = some (true, v)) : (∀ μ μ', v.den μ' = v.den μ) ∧ ∀ μ w, PureAt Tryd.prog 24 (vs.map (V.den μ)).toArray (v.den μ) w := by
  unfold g24 at h
  split at h
  · simp only [Option.some.injEq, Prod.mk.injEq] at h
    obtain ⟨h, rfl⟩ := h
    exact pure_ok (F := o41) (N := 300) (fn := Tryd.f24) (args := [_, _, _]) (r := _) (n := 14) hM o41_ok GE_ok Tryd.func24 (by kernel_rfl) (by kernel_rfl) (by kernel_rfl) (by kernel_rfl) (d24_a h) (by kernel_rfl)
  · cases h
end Go.Proofs.YtnoehjibponofaaDoor

/-
  ScalarProducts: the law's answer. Conditions: none.
-/
namespace Go.Proofs.YtnoehjibponofaaDoor
open Go.Ev Go.Num
noncomputable def d22 : Orc := ext 22 g22 d28
theorem d22_ok : OrcOK Tryd.prog d22 := ext_ok d28_ok g22_ok
noncomputable def d24 : Orc := ext 24 g24 d22
theorem d24_ok : OrcOK Tryd.prog d24 := ext_ok d22_ok g24_ok
theorem lawProducts_t (a b c : Nat → Int) : awp Tryd.prog d24 noG 300 (body Tryd.f5) (ends Tryd.prog Tryd.f5 fun v _ => okV (V.bool true) v) ⟨[(V.ints .u8 32 a), (V.ints .u8 32 b), (V.ints .u8 32 c)] ++ List.replicate 22 V.un, [(V.tup [V.fn 2, (V.ints .u64 4 ordF)])]⟩ = (gB ((byO 32 a) && (byO 32 b)) (mB (eqN 32 (mulO a b) (mulO a b)) (gB (byO 32 a && (byO 32 b && byO 32 c)) (okV (V.bool true) (V.bool (eqN 32 (addO (mulO a b) c) (addO (mulO a b) c))))) (okV (V.bool true) (V.bool false)))) := by kernel_rfl
theorem lawProducts_a {a b c : Nat → Int} (ha : By 32 a) (hb : By 32 b) (hc : By 32 c) : awp Tryd.prog d24 noG 300 (body Tryd.f5) (ends Tryd.prog Tryd.f5 fun v _ => okV (V.bool true) v) ⟨[(V.ints .u8 32 a), (V.ints .u8 32 b), (V.ints .u8 32 c)] ++ List.replicate 22 V.un, [(V.tup [V.fn 2, (V.ints .u64 4 ordF)])]⟩ := by
  rw [lawProducts_t]
  have g := both (byO_mk ha) (byO_mk hb)
  have g2 := both (byO_mk ha) (both (byO_mk hb) (byO_mk hc))
  refine gm g (mBt (fun _ => gm g2 (okV_bool (eqN_refl _ _))) (fun h => no_eq h))
end Go.Proofs.YtnoehjibponofaaDoor
