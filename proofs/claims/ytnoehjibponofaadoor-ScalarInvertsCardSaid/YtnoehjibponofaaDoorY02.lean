/-
  A part of the groundwork of this seat's claims: an evaluator over the program, walks, and plain mathematics. Conditions: none.
-/
import Derived.Test.YtnoehjibponofaaDoorY01
import Derived.Laws.Externs
/-
  The document's bit, Tell and Mod. Conditions: none.
-/
namespace Go.Proofs.YtnoehjibponofaaDoor
open Go.Ev
theorem bit_h (xN x xc : Nat) (xf : Nat → Int) (w : Int) (N : Nat) (R : V) : awq Tryd.prog o45 noG 1 N (body Tryd.f64) (ends Tryd.prog Tryd.f64 fun v _ => okV R v) ⟨[(V.sl 0 0 x xc), (V.int .i64 w)] ++ List.replicate 19 V.un, [(V.tup [(V.ints .i64 xN xf)])]⟩ = (gB (Nat.ble x (xN - 0) && decide (0 ≤ (quoI .i64 w 8))) ((lpW 1 (awp Tryd.prog o45 noG N (loopOf (body Tryd.f64)))) (spineW Tryd.prog o45 noG 1 N (body Tryd.f64) (ends Tryd.prog Tryd.f64 fun v _ => okV R v)) N ⟨[(V.sl 0 0 x xc), (V.int .i64 w), V.un, V.un, (V.int .i64 0), (V.int .i64 (atF x xf (quoI .i64 w 8))), (V.int .i64 0), (V.sl 0 0 x xc), (V.int .i64 w), (V.int .i64 (quoI .i64 w 8)), (V.int .i64 (atF x xf (quoI .i64 w 8))), V.un, V.un, V.un, V.un, V.un, V.un, V.un, V.un, V.un, V.un], [(V.tup [(V.ints .i64 xN xf)])]⟩)) := by kernel_rfl
theorem bit_bs (xN x xc : Nat) (xf : Nat → Int) (w : Int) (i q : Int) (t11 t12 t13 t14 t15 t16 t17 t18 : V) (Q : Exit → St → Prop) (m : Nat) : (lpW 1 (awp Tryd.prog o45 noG 300 (loopOf (body Tryd.f64)))) Q (m + 1) ⟨[(V.sl 0 0 x xc), (V.int .i64 w), V.un, V.un, (V.int .i64 0), (V.int .i64 q), (V.int .i64 i), (V.sl 0 0 x xc), (V.int .i64 w), (V.int .i64 (quoI .i64 w 8)), (V.int .i64 (atF x xf (quoI .i64 w 8))), t11, t12, t13, t14, t15, t16, t17, t18, V.un, V.un], [(V.tup [(V.ints .i64 xN xf)])]⟩ = (mB (decide (i < (remI w 8))) (∀ μ : Mu, ∃ s2, Gc 1 μ ⟨[(V.sl 0 0 x xc), (V.int .i64 w), V.un, V.un, (V.int .i64 0), (V.int .i64 (quoI .i64 q 2)), (V.int .i64 (addI .i64 i 1)), (V.sl 0 0 x xc), (V.int .i64 w), (V.int .i64 (quoI .i64 w 8)), (V.int .i64 (atF x xf (quoI .i64 w 8))), (V.int .i64 i), (V.int .i64 w), (V.int .i64 (remI w 8)), (V.bool (decide (i < (remI w 8)))), (V.int .i64 i), (V.int .i64 (addI .i64 i 1)), (V.int .i64 q), (V.int .i64 (quoI .i64 q 2)), V.un, V.un], [(V.tup [(V.ints .i64 xN xf)])]⟩ s2 ∧ (lpW 1 (awp Tryd.prog o45 noG 300 (loopOf (body Tryd.f64)))) Q m s2) (Q (.exit 0) ⟨[(V.sl 0 0 x xc), (V.int .i64 w), V.un, V.un, (V.int .i64 0), (V.int .i64 q), (V.int .i64 i), (V.sl 0 0 x xc), (V.int .i64 w), (V.int .i64 (quoI .i64 w 8)), (V.int .i64 (atF x xf (quoI .i64 w 8))), (V.int .i64 i), (V.int .i64 w), (V.int .i64 (remI w 8)), (V.bool (decide (i < (remI w 8)))), t15, t16, t17, t18, V.un, V.un], [(V.tup [(V.ints .i64 xN xf)])]⟩)) := by kernel_rfl
theorem bit_b (xN x xc : Nat) (xf : Nat → Int) (w : Int) (i q : Int) (t11 t12 t13 t14 t15 t16 t17 t18 : V) (Q : Exit → St → Prop) (m : Nat) (h : (mB (decide (i < (remI w 8))) (∀ (u11 u12 u13 u14 u15 u16 u17 u18 : V), (lpW 1 (awp Tryd.prog o45 noG 300 (loopOf (body Tryd.f64)))) Q m ⟨[(V.sl 0 0 x xc), (V.int .i64 w), V.un, V.un, (V.int .i64 0), (V.int .i64 (quoI .i64 q 2)), (V.int .i64 (addI .i64 i 1)), (V.sl 0 0 x xc), (V.int .i64 w), (V.int .i64 (quoI .i64 w 8)), (V.int .i64 (atF x xf (quoI .i64 w 8))), u11, u12, u13, u14, u15, u16, u17, u18, V.un, V.un], [(V.tup [(V.ints .i64 xN xf)])]⟩) (Q (.exit 0) ⟨[(V.sl 0 0 x xc), (V.int .i64 w), V.un, V.un, (V.int .i64 0), (V.int .i64 q), (V.int .i64 i), (V.sl 0 0 x xc), (V.int .i64 w), (V.int .i64 (quoI .i64 w 8)), (V.int .i64 (atF x xf (quoI .i64 w 8))), (V.int .i64 i), (V.int .i64 w), (V.int .i64 (remI w 8)), (V.bool (decide (i < (remI w 8)))), t15, t16, t17, t18, V.un, V.un], [(V.tup [(V.ints .i64 xN xf)])]⟩))) : (lpW 1 (awp Tryd.prog o45 noG 300 (loopOf (body Tryd.f64)))) Q (m + 1) ⟨[(V.sl 0 0 x xc), (V.int .i64 w), V.un, V.un, (V.int .i64 0), (V.int .i64 q), (V.int .i64 i), (V.sl 0 0 x xc), (V.int .i64 w), (V.int .i64 (quoI .i64 w 8)), (V.int .i64 (atF x xf (quoI .i64 w 8))), t11, t12, t13, t14, t15, t16, t17, t18, V.un, V.un], [(V.tup [(V.ints .i64 xN xf)])]⟩ := by
  rw [bit_bs]
  exact (mB_imp (fun h0 => (fun μ => ⟨_, gc_of [0] (m2 := [(V.tup [(V.ints .i64 xN xf)])]) (by kernel_rfl) (by kernel_rfl) (by kernel_rfl), cast_lp (show (St.mk _ _) = ⟨[(V.sl 0 0 x xc), (V.int .i64 w), V.un, V.un, (V.int .i64 0), (V.int .i64 (quoI .i64 q 2)), (V.int .i64 (addI .i64 i 1)), (V.sl 0 0 x xc), (V.int .i64 w), (V.int .i64 (quoI .i64 w 8)), (V.int .i64 (atF x xf (quoI .i64 w 8))), (V.int .i64 i), (V.int .i64 w), (V.int .i64 (remI w 8)), (V.bool (decide (i < (remI w 8)))), (V.int .i64 i), (V.int .i64 (addI .i64 i 1)), (V.int .i64 q), (V.int .i64 (quoI .i64 q 2)), V.un, V.un], [(V.tup [(V.ints .i64 xN xf)])]⟩ by kernel_rfl) (h0 (V.int .i64 i) (V.int .i64 w) (V.int .i64 (remI w 8)) (V.bool (decide (i < (remI w 8)))) (V.int .i64 i) (V.int .i64 (addI .i64 i 1)) (V.int .i64 q) (V.int .i64 (quoI .i64 q 2)))⟩)) (fun h0 => h0) h)
theorem bit_bx (xN x xc : Nat) (xf : Nat → Int) (w : Int) (i q : Int) (t11 t12 t13 t14 t15 t16 t17 t18 : V) (R : V) : (spineW Tryd.prog o45 noG 1 300 (body Tryd.f64) (ends Tryd.prog Tryd.f64 fun v _ => okV R v)) (.exit 0) ⟨[(V.sl 0 0 x xc), (V.int .i64 w), V.un, V.un, (V.int .i64 0), (V.int .i64 q), (V.int .i64 i), (V.sl 0 0 x xc), (V.int .i64 w), (V.int .i64 (quoI .i64 w 8)), (V.int .i64 (atF x xf (quoI .i64 w 8))), t11, t12, t13, t14, t15, t16, t17, t18, V.un, V.un], [(V.tup [(V.ints .i64 xN xf)])]⟩ = (okV R (V.int .i64 (remI q 2))) := by kernel_rfl
def hvI (d : Int) : Nat → Int
  | 0 => d
  | k + 1 => quoI .i64 (hvI d k) 2
def bitV (x : Nat) (xf : Nat → Int) (w : Int) : Int := remI (hvI (atF x xf (quoI .i64 w 8)) (Int.toNat (remI w 8))) 2
theorem bit_l (xN x xc : Nat) (xf : Nat → Int) (w : Nat) : ∀ (r k m : Nat), k + r = w % 8 → r + 1 ≤ m → ∀ (t11 t12 t13 t14 t15 t16 t17 t18 : V),
    (lpW 1 (awp Tryd.prog o45 noG 300 (loopOf (body Tryd.f64)))) ((spineW Tryd.prog o45 noG 1 300 (body Tryd.f64) (ends Tryd.prog Tryd.f64 fun v _ => okV (V.int .i64 (bitV x xf (w : Int))) v))) m ⟨[(V.sl 0 0 x xc), (V.int .i64 (w : Int)), V.un, V.un, (V.int .i64 0), (V.int .i64 (hvI (atF x xf (quoI .i64 (w : Int) 8)) k)), (V.int .i64 (k : Int)), (V.sl 0 0 x xc), (V.int .i64 (w : Int)), (V.int .i64 (quoI .i64 (w : Int) 8)), (V.int .i64 (atF x xf (quoI .i64 (w : Int) 8))), t11, t12, t13, t14, t15, t16, t17, t18, V.un, V.un], [(V.tup [(V.ints .i64 xN xf)])]⟩
  | 0, k, m, hk, hm, t11, t12, t13, t14, t15, t16, t17, t18 => by
    obtain ⟨m, rfl⟩ : ∃ z, m = z + 1 := ⟨m - 1, by omega⟩
    refine bit_b _ _ _ _ _ _ _ _ _ _ _ _ _ _ _ _ _ ?_
    have hr : remI (w : Int) 8 = ((w % 8 : Nat) : Int) := rem_nat w 8
    refine mBt (fun h => absurd (of_decide_eq_true h) (by rw [hr]; omega)) (fun _ => ?_)
    rw [bit_bx]
    unfold bitV
    rw [hr, Int.toNat_natCast, show w % 8 = k by omega]
    exact okV_refl rfl
  | r + 1, k, m, hk, hm, t11, t12, t13, t14, t15, t16, t17, t18 => by
    obtain ⟨m, rfl⟩ : ∃ z, m = z + 1 := ⟨m - 1, by omega⟩
    refine bit_b _ _ _ _ _ _ _ _ _ _ _ _ _ _ _ _ _ ?_
    have hr : remI (w : Int) 8 = ((w % 8 : Nat) : Int) := rem_nat w 8
    have hnx : addI .i64 (k : Int) 1 = ((k + 1 : Nat) : Int) := add1_nat k (by omega)
    rw [hnx]
    refine mBt (fun _ u11 u12 u13 u14 u15 u16 u17 u18 => ?_) (fun h => absurd (of_decide_eq_false h) (by rw [hr]; omega))
    exact bit_l xN x xc xf w r (k + 1) m (by omega) (by omega) _ _ _ _ _ _ _ _
theorem bit_all {xN x xc : Nat} {xf : Nat → Int} {w : Int} (hx : x ≤ xN) (h0 : 0 ≤ w) (h1 : w < 2147483648) : awq Tryd.prog o45 noG 1 300 (body Tryd.f64) (ends Tryd.prog Tryd.f64 fun v _ => okV (V.int .i64 (bitV x xf w)) v) ⟨[(V.sl 0 0 x xc), (V.int .i64 w)] ++ List.replicate 19 V.un, [(V.tup [(V.ints .i64 xN xf)])]⟩ := by
  obtain ⟨w, rfl⟩ := Int.eq_ofNat_of_zero_le h0
  rw [bit_h]
  have hq : quoI .i64 (w : Int) 8 = ((w / 8 : Nat) : Int) := quo_nat w 8 (by omega)
  refine gm (by rw [bleT.2 (show x ≤ xN - 0 by omega), hq, decide_eq_true (show (0 : Int) ≤ ((w / 8 : Nat) : Int) by omega)]; rfl) ?_
  exact bit_l xN x xc xf w (w % 8) 0 300 (by omega) (by omega) _ _ _ _ _ _ _ _
def g64 : List V → List V → Option (Bool × V) := fun vs m => match views [] vs m with
  | some ([.sl 0 0 x xc, .int .i64 w], [.tup [.ints .i64 xN xf]]) => some (Nat.ble x xN && decide (0 ≤ w) && decide (w < 2147483648), .int .i64 (bitV x xf w))
  | _ => none
theorem g64_ok (vs m : List V) (v : V) (h : g64 vs m = some (true, v)) : v.flat = true ∧ ∀ μ B w0 w, Under B w0 → Rel μ B w0 m w → PureAt Tryd.prog 64 (vs.map (V.den μ)).toArray (v.den μ) w := by
  unfold g64 at h
  split at h
  · rename_i x xc w xN xf hv
    simp only [Option.some.injEq, Prod.mk.injEq, Bool.and_eq_true] at h
    obtain ⟨⟨⟨h1, h2⟩, h3⟩, rfl⟩ := h
    refine ⟨rfl, ?_⟩
    exact reads_awq (fn := Tryd.f64) (N := 300) (n := 19) hM o45_ok (noG_ok _) Tryd.func64 (by kernel_rfl) (by kernel_rfl) hv rfl (bit_all (bleT.1 h1) (of_decide_eq_true h2) (of_decide_eq_true h3)) (by kernel_rfl) (by kernel_rfl)
  · cases h
theorem g64_grow (vs m : List V) (z : V) (r : Bool × V) (h : g64 vs m = some r) : g64 vs (m ++ [z]) = some r := by
  unfold g64 at h ⊢
  cases hv : views [] vs m with
  | none => rw [hv] at h; cases h
  | some p => rw [hv] at h; rw [views_grow hv]; exact h
def o64 : Orc := extM 64 g64 o45
theorem o64_ok : OrcOK Tryd.prog o64 := extM_ok o45_ok g64_ok g64_grow
def ordN : Nat → Int := (up 31 16 (up 30 0 (up 29 0 (up 28 0 (up 27 0 (up 26 0 (up 25 0 (up 24 0 (up 23 0 (up 22 0 (up 21 0 (up 20 0 (up 19 0 (up 18 0 (up 17 0 (up 16 0 (up 15 20 (up 14 222 (up 13 249 (up 12 222 (up 11 162 (up 10 247 (up 9 156 (up 8 214 (up 7 88 (up 6 18 (up 5 99 (up 4 26 (up 3 92 (up 2 245 (up 1 211 (up 0 237 (fun _ => 0)))))))))))))))))))))))))))))))))
def dblC (q : Int) (hh : Nat → Int) : Nat → Int
  | 0 => q
  | k + 1 => quoI .i64 (addI .i64 (mulI .i64 2 (hh k)) (dblC q hh k)) 256
def dblF (q : Int) (hh : Nat → Int) : Nat → (Nat → Int)
  | 0 => hh
  | k + 1 => up k (remI (addI .i64 (mulI .i64 2 (hh k)) (dblC q hh k)) 256) (dblF q hh k)
def GM : GOrc := exG53 (inl Tryd.prog o64 600 46 Tryd.f46 noG)
theorem GM_ok : GOrcOK Tryd.prog GM := G53_ok (inl_ok hM o64_ok (noG_ok _) Tryd.func46 (by kernel_rfl) (by kernel_rfl))
theorem mod_h (xN x xc : Nat) (xf : Nat → Int) (N : Nat) (d : Made) : awq Tryd.prog o64 GM 1 N (body Tryd.f42) (ends Tryd.prog Tryd.f42 fun v m => madeK d v m) ⟨[(V.sl 0 0 x xc)] ++ List.replicate 47 V.un, [(V.tup [(V.ints .i64 xN xf)])]⟩ = ((lpW 1 (awp Tryd.prog o64 GM N (loopOf (body Tryd.f42)))) (spineW Tryd.prog o64 GM 1 N (body Tryd.f42) (ends Tryd.prog Tryd.f42 fun v m => madeK d v m)) N ⟨[(V.sl 0 0 x xc), V.un, V.snil, (V.sl 1 0 32 32), (V.sl 2 0 33 33), (V.int .i64 (subI .i64 (mulI .i64 8 ((x : Nat) : Int)) 1)), V.un, V.un, V.un, (V.sl 1 0 32 32), (V.sl 2 0 33 33), (V.sl 0 0 x xc), (V.int .i64 ((x : Nat) : Int)), (V.int .i64 (mulI .i64 8 ((x : Nat) : Int))), (V.int .i64 (subI .i64 (mulI .i64 8 ((x : Nat) : Int)) 1)), V.un, V.un, V.un, V.un, V.un, V.un, V.un, V.un, V.un, V.un, V.un, V.un, V.un, V.un, V.un, V.un, V.un, V.un, V.un, V.un, V.un, V.un, V.un, V.un, V.un, V.un, V.un, V.un, V.un, V.un, V.un, V.un, V.un], [(V.tup [(V.ints .i64 xN xf)]), (V.ints .i64 32 (up 31 16 (up 30 0 (up 29 0 (up 28 0 (up 27 0 (up 26 0 (up 25 0 (up 24 0 (up 23 0 (up 22 0 (up 21 0 (up 20 0 (up 19 0 (up 18 0 (up 17 0 (up 16 0 (up 15 20 (up 14 222 (up 13 249 (up 12 222 (up 11 162 (up 10 247 (up 9 156 (up 8 214 (up 7 88 (up 6 18 (up 5 99 (up 4 26 (up 3 92 (up 2 245 (up 1 211 (up 0 237 (fun _ => 0)))))))))))))))))))))))))))))))))), (V.ints .i64 33 (fun _ => 0))]⟩) := by kernel_rfl
theorem mod_bs (xN x xc : Nat) (xf : Nat → Int) (i : Int) (e : Nat) (hh : Nat → Int) (t6 t7 t8 t10 t15 t16 t17 t18 t19 t20 t21 t22 t23 t24 t25 t26 t27 t28 t29 t30 t31 t32 t33 t34 t35 t36 t37 t38 t39 t40 t41 t42 t43 t44 t45 t46 : V) (Q : Exit → St → Prop) (m : Nat) : (lpW 1 (awp Tryd.prog o64 GM 600 (loopOf (body Tryd.f42)))) Q (m + 1) ⟨[(V.sl 0 0 x xc), V.un, V.snil, (V.sl 1 0 32 32), (V.sl 2 0 33 (e + 33)), (V.int .i64 i), t6, t7, t8, (V.sl 1 0 32 32), t10, (V.sl 0 0 x xc), (V.int .i64 ((x : Nat) : Int)), (V.int .i64 (mulI .i64 8 ((x : Nat) : Int))), (V.int .i64 (subI .i64 (mulI .i64 8 ((x : Nat) : Int)) 1)), t15, t16, t17, t18, t19, t20, t21, t22, t23, t24, t25, t26, t27, t28, t29, t30, t31, t32, t33, t34, t35, t36, t37, t38, t39, t40, t41, t42, t43, t44, t45, t46, V.un], [(V.tup [(V.ints .i64 xN xf)]), (V.ints .i64 32 ordN), (V.ints .i64 (e + 33) hh)]⟩ = (mB (decide (i ≥ 0)) (gB (Nat.ble x (xN - 0) && decide (0 ≤ i) && decide (i < 2147483648)) (mB (!(lessD 33 (dblF (bitV x xf i) hh 33) 32 ordN (max 33 32))) (∀ (e1 : Nat) (ff2 : Nat → Int), (∀ μ : Mu, ∃ s2, Gc 1 μ ⟨[(V.sl 0 0 x xc), V.un, V.snil, (V.sl 1 0 32 32), (V.sl 3 0 33 (e1 + 33)), (V.int .i64 (subI .i64 i 1)), (V.int .i64 (dblC (bitV x xf i) hh 33)), (V.int .i64 33), (V.int .i64 (addI .i64 (mulI .i64 2 ((dblF (bitV x xf i) hh 32) 32)) (dblC (bitV x xf i) hh 32))), (V.sl 1 0 32 32), t10, (V.sl 0 0 x xc), (V.int .i64 ((x : Nat) : Int)), (V.int .i64 (mulI .i64 8 ((x : Nat) : Int))), (V.int .i64 (subI .i64 (mulI .i64 8 ((x : Nat) : Int)) 1)), (V.int .i64 i), (V.bool (decide (i ≥ 0))), (V.int .i64 i), (V.int .i64 (subI .i64 i 1)), (V.sl 0 0 x xc), (V.int .i64 i), (V.int .i64 (bitV x xf i)), (V.int .i64 33), (V.bool false), (V.int .i64 32), (V.int .i64 33), (V.sl 2 0 33 (e + 33)), (V.int .i64 32), (V.ptr 2 32), (V.int .i64 ((dblF (bitV x xf i) hh 32) 32)), (V.int .i64 (mulI .i64 2 ((dblF (bitV x xf i) hh 32) 32))), (V.int .i64 (dblC (bitV x xf i) hh 32)), (V.int .i64 (addI .i64 (mulI .i64 2 ((dblF (bitV x xf i) hh 32) 32)) (dblC (bitV x xf i) hh 32))), (V.sl 2 0 33 (e + 33)), (V.int .i64 32), (V.int .i64 (addI .i64 (mulI .i64 2 ((dblF (bitV x xf i) hh 32) 32)) (dblC (bitV x xf i) hh 32))), (V.int .i64 (remI (addI .i64 (mulI .i64 2 ((dblF (bitV x xf i) hh 32) 32)) (dblC (bitV x xf i) hh 32)) 256)), (V.ptr 2 32), (V.int .i64 (addI .i64 (mulI .i64 2 ((dblF (bitV x xf i) hh 32) 32)) (dblC (bitV x xf i) hh 32))), (V.int .i64 (quoI .i64 (addI .i64 (mulI .i64 2 ((dblF (bitV x xf i) hh 32) 32)) (dblC (bitV x xf i) hh 32)) 256)), (V.sl 2 0 33 (e + 33)), (V.sl 1 0 32 32), (V.bool (lessD 33 (dblF (bitV x xf i) hh 33) 32 ordN (max 33 32))), (V.bool (!(lessD 33 (dblF (bitV x xf i) hh 33) 32 ordN (max 33 32)))), (V.sl 2 0 33 (e + 33)), (V.sl 1 0 32 32), (V.sl 3 0 33 (e1 + 33)), V.un], [(V.tup [(V.ints .i64 xN xf)]), (V.ints .i64 32 ordN), (V.ints .i64 (e + 33) (dblF (bitV x xf i) hh 33)), (V.ints .i64 (e1 + 33) (apx 33 (mnsV (dblF (bitV x xf i) hh 33) 32 ordN) ff2))]⟩ s2 ∧ (lpW 1 (awp Tryd.prog o64 GM 600 (loopOf (body Tryd.f42)))) Q m s2)) (∀ μ : Mu, ∃ s2, Gc 1 μ ⟨[(V.sl 0 0 x xc), V.un, V.snil, (V.sl 1 0 32 32), (V.sl 2 0 33 (e + 33)), (V.int .i64 (subI .i64 i 1)), (V.int .i64 (dblC (bitV x xf i) hh 33)), (V.int .i64 33), (V.int .i64 (addI .i64 (mulI .i64 2 ((dblF (bitV x xf i) hh 32) 32)) (dblC (bitV x xf i) hh 32))), (V.sl 1 0 32 32), t10, (V.sl 0 0 x xc), (V.int .i64 ((x : Nat) : Int)), (V.int .i64 (mulI .i64 8 ((x : Nat) : Int))), (V.int .i64 (subI .i64 (mulI .i64 8 ((x : Nat) : Int)) 1)), (V.int .i64 i), (V.bool (decide (i ≥ 0))), (V.int .i64 i), (V.int .i64 (subI .i64 i 1)), (V.sl 0 0 x xc), (V.int .i64 i), (V.int .i64 (bitV x xf i)), (V.int .i64 33), (V.bool false), (V.int .i64 32), (V.int .i64 33), (V.sl 2 0 33 (e + 33)), (V.int .i64 32), (V.ptr 2 32), (V.int .i64 ((dblF (bitV x xf i) hh 32) 32)), (V.int .i64 (mulI .i64 2 ((dblF (bitV x xf i) hh 32) 32))), (V.int .i64 (dblC (bitV x xf i) hh 32)), (V.int .i64 (addI .i64 (mulI .i64 2 ((dblF (bitV x xf i) hh 32) 32)) (dblC (bitV x xf i) hh 32))), (V.sl 2 0 33 (e + 33)), (V.int .i64 32), (V.int .i64 (addI .i64 (mulI .i64 2 ((dblF (bitV x xf i) hh 32) 32)) (dblC (bitV x xf i) hh 32))), (V.int .i64 (remI (addI .i64 (mulI .i64 2 ((dblF (bitV x xf i) hh 32) 32)) (dblC (bitV x xf i) hh 32)) 256)), (V.ptr 2 32), (V.int .i64 (addI .i64 (mulI .i64 2 ((dblF (bitV x xf i) hh 32) 32)) (dblC (bitV x xf i) hh 32))), (V.int .i64 (quoI .i64 (addI .i64 (mulI .i64 2 ((dblF (bitV x xf i) hh 32) 32)) (dblC (bitV x xf i) hh 32)) 256)), (V.sl 2 0 33 (e + 33)), (V.sl 1 0 32 32), (V.bool (lessD 33 (dblF (bitV x xf i) hh 33) 32 ordN (max 33 32))), (V.bool (!(lessD 33 (dblF (bitV x xf i) hh 33) 32 ordN (max 33 32)))), t44, t45, t46, V.un], [(V.tup [(V.ints .i64 xN xf)]), (V.ints .i64 32 ordN), (V.ints .i64 (e + 33) (dblF (bitV x xf i) hh 33))]⟩ s2 ∧ (lpW 1 (awp Tryd.prog o64 GM 600 (loopOf (body Tryd.f42)))) Q m s2))) (Q (.exit 0) ⟨[(V.sl 0 0 x xc), V.un, V.snil, (V.sl 1 0 32 32), (V.sl 2 0 33 (e + 33)), (V.int .i64 i), t6, t7, t8, (V.sl 1 0 32 32), t10, (V.sl 0 0 x xc), (V.int .i64 ((x : Nat) : Int)), (V.int .i64 (mulI .i64 8 ((x : Nat) : Int))), (V.int .i64 (subI .i64 (mulI .i64 8 ((x : Nat) : Int)) 1)), (V.int .i64 i), (V.bool (decide (i ≥ 0))), t17, t18, t19, t20, t21, t22, t23, t24, t25, t26, t27, t28, t29, t30, t31, t32, t33, t34, t35, t36, t37, t38, t39, t40, t41, t42, t43, t44, t45, t46, V.un], [(V.tup [(V.ints .i64 xN xf)]), (V.ints .i64 32 ordN), (V.ints .i64 (e + 33) hh)]⟩)) := by kernel_rfl
theorem mod_b (xN x xc : Nat) (xf : Nat → Int) (i : Int) (e : Nat) (hh : Nat → Int) (t6 t7 t8 t10 t15 t16 t17 t18 t19 t20 t21 t22 t23 t24 t25 t26 t27 t28 t29 t30 t31 t32 t33 t34 t35 t36 t37 t38 t39 t40 t41 t42 t43 t44 t45 t46 : V) (Q : Exit → St → Prop) (m : Nat) (h : (mB (decide (i ≥ 0)) (gB (Nat.ble x (xN - 0) && decide (0 ≤ i) && decide (i < 2147483648)) (mB (!(lessD 33 (dblF (bitV x xf i) hh 33) 32 ordN (max 33 32))) (∀ (e1 : Nat) (ff2 : Nat → Int), (∀ (u6 u7 u8 u10 u15 u16 u17 u18 u19 u20 u21 u22 u23 u24 u25 u26 u27 u28 u29 u30 u31 u32 u33 u34 u35 u36 u37 u38 u39 u40 u41 u42 u43 u44 u45 u46 : V), (lpW 1 (awp Tryd.prog o64 GM 600 (loopOf (body Tryd.f42)))) Q m ⟨[(V.sl 0 0 x xc), V.un, V.snil, (V.sl 1 0 32 32), (V.sl 2 0 33 (e1 + 33)), (V.int .i64 (subI .i64 i 1)), u6, u7, u8, (V.sl 1 0 32 32), u10, (V.sl 0 0 x xc), (V.int .i64 ((x : Nat) : Int)), (V.int .i64 (mulI .i64 8 ((x : Nat) : Int))), (V.int .i64 (subI .i64 (mulI .i64 8 ((x : Nat) : Int)) 1)), u15, u16, u17, u18, u19, u20, u21, u22, u23, u24, u25, u26, u27, u28, u29, u30, u31, u32, u33, u34, u35, u36, u37, u38, u39, u40, u41, u42, u43, u44, u45, u46, V.un], [(V.tup [(V.ints .i64 xN xf)]), (V.ints .i64 32 ordN), (V.ints .i64 (e1 + 33) (apx 33 (mnsV (dblF (bitV x xf i) hh 33) 32 ordN) ff2))]⟩)) (∀ (u6 u7 u8 u10 u15 u16 u17 u18 u19 u20 u21 u22 u23 u24 u25 u26 u27 u28 u29 u30 u31 u32 u33 u34 u35 u36 u37 u38 u39 u40 u41 u42 u43 u44 u45 u46 : V), (lpW 1 (awp Tryd.prog o64 GM 600 (loopOf (body Tryd.f42)))) Q m ⟨[(V.sl 0 0 x xc), V.un, V.snil, (V.sl 1 0 32 32), (V.sl 2 0 33 (e + 33)), (V.int .i64 (subI .i64 i 1)), u6, u7, u8, (V.sl 1 0 32 32), u10, (V.sl 0 0 x xc), (V.int .i64 ((x : Nat) : Int)), (V.int .i64 (mulI .i64 8 ((x : Nat) : Int))), (V.int .i64 (subI .i64 (mulI .i64 8 ((x : Nat) : Int)) 1)), u15, u16, u17, u18, u19, u20, u21, u22, u23, u24, u25, u26, u27, u28, u29, u30, u31, u32, u33, u34, u35, u36, u37, u38, u39, u40, u41, u42, u43, u44, u45, u46, V.un], [(V.tup [(V.ints .i64 xN xf)]), (V.ints .i64 32 ordN), (V.ints .i64 (e + 33) (dblF (bitV x xf i) hh 33))]⟩))) (Q (.exit 0) ⟨[(V.sl 0 0 x xc), V.un, V.snil, (V.sl 1 0 32 32), (V.sl 2 0 33 (e + 33)), (V.int .i64 i), t6, t7, t8, (V.sl 1 0 32 32), t10, (V.sl 0 0 x xc), (V.int .i64 ((x : Nat) : Int)), (V.int .i64 (mulI .i64 8 ((x : Nat) : Int))), (V.int .i64 (subI .i64 (mulI .i64 8 ((x : Nat) : Int)) 1)), (V.int .i64 i), (V.bool (decide (i ≥ 0))), t17, t18, t19, t20, t21, t22, t23, t24, t25, t26, t27, t28, t29, t30, t31, t32, t33, t34, t35, t36, t37, t38, t39, t40, t41, t42, t43, t44, t45, t46, V.un], [(V.tup [(V.ints .i64 xN xf)]), (V.ints .i64 32 ordN), (V.ints .i64 (e + 33) hh)]⟩))) : (lpW 1 (awp Tryd.prog o64 GM 600 (loopOf (body Tryd.f42)))) Q (m + 1) ⟨[(V.sl 0 0 x xc), V.un, V.snil, (V.sl 1 0 32 32), (V.sl 2 0 33 (e + 33)), (V.int .i64 i), t6, t7, t8, (V.sl 1 0 32 32), t10, (V.sl 0 0 x xc), (V.int .i64 ((x : Nat) : Int)), (V.int .i64 (mulI .i64 8 ((x : Nat) : Int))), (V.int .i64 (subI .i64 (mulI .i64 8 ((x : Nat) : Int)) 1)), t15, t16, t17, t18, t19, t20, t21, t22, t23, t24, t25, t26, t27, t28, t29, t30, t31, t32, t33, t34, t35, t36, t37, t38, t39, t40, t41, t42, t43, t44, t45, t46, V.un], [(V.tup [(V.ints .i64 xN xf)]), (V.ints .i64 32 ordN), (V.ints .i64 (e + 33) hh)]⟩ := by
  rw [mod_bs]
  exact (mB_imp (fun h0 => (gB_imp (fun h1 => (mB_imp (fun h2 => (fun e1 ff2 => (fun μ => ⟨_, gc_of [0, 1, 3] (m2 := [(V.tup [(V.ints .i64 xN xf)]), (V.ints .i64 32 ordN), (V.ints .i64 (e1 + 33) (apx 33 (mnsV (dblF (bitV x xf i) hh 33) 32 ordN) ff2))]) (by kernel_rfl) (by kernel_rfl) (by kernel_rfl), cast_lp (show (St.mk _ _) = ⟨[(V.sl 0 0 x xc), V.un, V.snil, (V.sl 1 0 32 32), (V.sl 2 0 33 (e1 + 33)), (V.int .i64 (subI .i64 i 1)), (V.int .i64 (dblC (bitV x xf i) hh 33)), (V.int .i64 33), (V.int .i64 (addI .i64 (mulI .i64 2 ((dblF (bitV x xf i) hh 32) 32)) (dblC (bitV x xf i) hh 32))), (V.sl 1 0 32 32), (V.keep [0, 1, 3] μ t10), (V.sl 0 0 x xc), (V.int .i64 ((x : Nat) : Int)), (V.int .i64 (mulI .i64 8 ((x : Nat) : Int))), (V.int .i64 (subI .i64 (mulI .i64 8 ((x : Nat) : Int)) 1)), (V.int .i64 i), (V.bool (decide (i ≥ 0))), (V.int .i64 i), (V.int .i64 (subI .i64 i 1)), (V.sl 0 0 x xc), (V.int .i64 i), (V.int .i64 (bitV x xf i)), (V.int .i64 33), (V.bool false), (V.int .i64 32), (V.int .i64 33), (V.any (V.den μ (V.sl 2 0 33 (e + 33)))), (V.int .i64 32), (V.any (V.den μ (V.ptr 2 32))), (V.int .i64 ((dblF (bitV x xf i) hh 32) 32)), (V.int .i64 (mulI .i64 2 ((dblF (bitV x xf i) hh 32) 32))), (V.int .i64 (dblC (bitV x xf i) hh 32)), (V.int .i64 (addI .i64 (mulI .i64 2 ((dblF (bitV x xf i) hh 32) 32)) (dblC (bitV x xf i) hh 32))), (V.any (V.den μ (V.sl 2 0 33 (e + 33)))), (V.int .i64 32), (V.int .i64 (addI .i64 (mulI .i64 2 ((dblF (bitV x xf i) hh 32) 32)) (dblC (bitV x xf i) hh 32))), (V.int .i64 (remI (addI .i64 (mulI .i64 2 ((dblF (bitV x xf i) hh 32) 32)) (dblC (bitV x xf i) hh 32)) 256)), (V.any (V.den μ (V.ptr 2 32))), (V.int .i64 (addI .i64 (mulI .i64 2 ((dblF (bitV x xf i) hh 32) 32)) (dblC (bitV x xf i) hh 32))), (V.int .i64 (quoI .i64 (addI .i64 (mulI .i64 2 ((dblF (bitV x xf i) hh 32) 32)) (dblC (bitV x xf i) hh 32)) 256)), (V.any (V.den μ (V.sl 2 0 33 (e + 33)))), (V.sl 1 0 32 32), (V.bool (lessD 33 (dblF (bitV x xf i) hh 33) 32 ordN (max 33 32))), (V.bool (!(lessD 33 (dblF (bitV x xf i) hh 33) 32 ordN (max 33 32)))), (V.any (V.den μ (V.sl 2 0 33 (e + 33)))), (V.sl 1 0 32 32), (V.sl 2 0 33 (e1 + 33)), V.un], [(V.tup [(V.ints .i64 xN xf)]), (V.ints .i64 32 ordN), (V.ints .i64 (e1 + 33) (apx 33 (mnsV (dblF (bitV x xf i) hh 33) 32 ordN) ff2))]⟩ by kernel_rfl) ((h2 e1 ff2) (V.int .i64 (dblC (bitV x xf i) hh 33)) (V.int .i64 33) (V.int .i64 (addI .i64 (mulI .i64 2 ((dblF (bitV x xf i) hh 32) 32)) (dblC (bitV x xf i) hh 32))) (V.keep [0, 1, 3] μ t10) (V.int .i64 i) (V.bool (decide (i ≥ 0))) (V.int .i64 i) (V.int .i64 (subI .i64 i 1)) (V.sl 0 0 x xc) (V.int .i64 i) (V.int .i64 (bitV x xf i)) (V.int .i64 33) (V.bool false) (V.int .i64 32) (V.int .i64 33) (V.any (V.den μ (V.sl 2 0 33 (e + 33)))) (V.int .i64 32) (V.any (V.den μ (V.ptr 2 32))) (V.int .i64 ((dblF (bitV x xf i) hh 32) 32)) (V.int .i64 (mulI .i64 2 ((dblF (bitV x xf i) hh 32) 32))) (V.int .i64 (dblC (bitV x xf i) hh 32)) (V.int .i64 (addI .i64 (mulI .i64 2 ((dblF (bitV x xf i) hh 32) 32)) (dblC (bitV x xf i) hh 32))) (V.any (V.den μ (V.sl 2 0 33 (e + 33)))) (V.int .i64 32) (V.int .i64 (addI .i64 (mulI .i64 2 ((dblF (bitV x xf i) hh 32) 32)) (dblC (bitV x xf i) hh 32))) (V.int .i64 (remI (addI .i64 (mulI .i64 2 ((dblF (bitV x xf i) hh 32) 32)) (dblC (bitV x xf i) hh 32)) 256)) (V.any (V.den μ (V.ptr 2 32))) (V.int .i64 (addI .i64 (mulI .i64 2 ((dblF (bitV x xf i) hh 32) 32)) (dblC (bitV x xf i) hh 32))) (V.int .i64 (quoI .i64 (addI .i64 (mulI .i64 2 ((dblF (bitV x xf i) hh 32) 32)) (dblC (bitV x xf i) hh 32)) 256)) (V.any (V.den μ (V.sl 2 0 33 (e + 33)))) (V.sl 1 0 32 32) (V.bool (lessD 33 (dblF (bitV x xf i) hh 33) 32 ordN (max 33 32))) (V.bool (!(lessD 33 (dblF (bitV x xf i) hh 33) 32 ordN (max 33 32)))) (V.any (V.den μ (V.sl 2 0 33 (e + 33)))) (V.sl 1 0 32 32) (V.sl 2 0 33 (e1 + 33)))⟩))) (fun h2 => (fun μ => ⟨_, gc_of [0, 1, 2] (m2 := [(V.tup [(V.ints .i64 xN xf)]), (V.ints .i64 32 ordN), (V.ints .i64 (e + 33) (dblF (bitV x xf i) hh 33))]) (by kernel_rfl) (by kernel_rfl) (by kernel_rfl), cast_lp (show (St.mk _ _) = ⟨[(V.sl 0 0 x xc), V.un, V.snil, (V.sl 1 0 32 32), (V.sl 2 0 33 (e + 33)), (V.int .i64 (subI .i64 i 1)), (V.int .i64 (dblC (bitV x xf i) hh 33)), (V.int .i64 33), (V.int .i64 (addI .i64 (mulI .i64 2 ((dblF (bitV x xf i) hh 32) 32)) (dblC (bitV x xf i) hh 32))), (V.sl 1 0 32 32), (V.keep [0, 1, 2] μ t10), (V.sl 0 0 x xc), (V.int .i64 ((x : Nat) : Int)), (V.int .i64 (mulI .i64 8 ((x : Nat) : Int))), (V.int .i64 (subI .i64 (mulI .i64 8 ((x : Nat) : Int)) 1)), (V.int .i64 i), (V.bool (decide (i ≥ 0))), (V.int .i64 i), (V.int .i64 (subI .i64 i 1)), (V.sl 0 0 x xc), (V.int .i64 i), (V.int .i64 (bitV x xf i)), (V.int .i64 33), (V.bool false), (V.int .i64 32), (V.int .i64 33), (V.sl 2 0 33 (e + 33)), (V.int .i64 32), (V.ptr 2 32), (V.int .i64 ((dblF (bitV x xf i) hh 32) 32)), (V.int .i64 (mulI .i64 2 ((dblF (bitV x xf i) hh 32) 32))), (V.int .i64 (dblC (bitV x xf i) hh 32)), (V.int .i64 (addI .i64 (mulI .i64 2 ((dblF (bitV x xf i) hh 32) 32)) (dblC (bitV x xf i) hh 32))), (V.sl 2 0 33 (e + 33)), (V.int .i64 32), (V.int .i64 (addI .i64 (mulI .i64 2 ((dblF (bitV x xf i) hh 32) 32)) (dblC (bitV x xf i) hh 32))), (V.int .i64 (remI (addI .i64 (mulI .i64 2 ((dblF (bitV x xf i) hh 32) 32)) (dblC (bitV x xf i) hh 32)) 256)), (V.ptr 2 32), (V.int .i64 (addI .i64 (mulI .i64 2 ((dblF (bitV x xf i) hh 32) 32)) (dblC (bitV x xf i) hh 32))), (V.int .i64 (quoI .i64 (addI .i64 (mulI .i64 2 ((dblF (bitV x xf i) hh 32) 32)) (dblC (bitV x xf i) hh 32)) 256)), (V.sl 2 0 33 (e + 33)), (V.sl 1 0 32 32), (V.bool (lessD 33 (dblF (bitV x xf i) hh 33) 32 ordN (max 33 32))), (V.bool (!(lessD 33 (dblF (bitV x xf i) hh 33) 32 ordN (max 33 32)))), (V.keep [0, 1, 2] μ t44), (V.keep [0, 1, 2] μ t45), (V.keep [0, 1, 2] μ t46), V.un], [(V.tup [(V.ints .i64 xN xf)]), (V.ints .i64 32 ordN), (V.ints .i64 (e + 33) (dblF (bitV x xf i) hh 33))]⟩ by kernel_rfl) (h2 (V.int .i64 (dblC (bitV x xf i) hh 33)) (V.int .i64 33) (V.int .i64 (addI .i64 (mulI .i64 2 ((dblF (bitV x xf i) hh 32) 32)) (dblC (bitV x xf i) hh 32))) (V.keep [0, 1, 2] μ t10) (V.int .i64 i) (V.bool (decide (i ≥ 0))) (V.int .i64 i) (V.int .i64 (subI .i64 i 1)) (V.sl 0 0 x xc) (V.int .i64 i) (V.int .i64 (bitV x xf i)) (V.int .i64 33) (V.bool false) (V.int .i64 32) (V.int .i64 33) (V.sl 2 0 33 (e + 33)) (V.int .i64 32) (V.ptr 2 32) (V.int .i64 ((dblF (bitV x xf i) hh 32) 32)) (V.int .i64 (mulI .i64 2 ((dblF (bitV x xf i) hh 32) 32))) (V.int .i64 (dblC (bitV x xf i) hh 32)) (V.int .i64 (addI .i64 (mulI .i64 2 ((dblF (bitV x xf i) hh 32) 32)) (dblC (bitV x xf i) hh 32))) (V.sl 2 0 33 (e + 33)) (V.int .i64 32) (V.int .i64 (addI .i64 (mulI .i64 2 ((dblF (bitV x xf i) hh 32) 32)) (dblC (bitV x xf i) hh 32))) (V.int .i64 (remI (addI .i64 (mulI .i64 2 ((dblF (bitV x xf i) hh 32) 32)) (dblC (bitV x xf i) hh 32)) 256)) (V.ptr 2 32) (V.int .i64 (addI .i64 (mulI .i64 2 ((dblF (bitV x xf i) hh 32) 32)) (dblC (bitV x xf i) hh 32))) (V.int .i64 (quoI .i64 (addI .i64 (mulI .i64 2 ((dblF (bitV x xf i) hh 32) 32)) (dblC (bitV x xf i) hh 32)) 256)) (V.sl 2 0 33 (e + 33)) (V.sl 1 0 32 32) (V.bool (lessD 33 (dblF (bitV x xf i) hh 33) 32 ordN (max 33 32))) (V.bool (!(lessD 33 (dblF (bitV x xf i) hh 33) 32 ordN (max 33 32)))) (V.keep [0, 1, 2] μ t44) (V.keep [0, 1, 2] μ t45) (V.keep [0, 1, 2] μ t46))⟩)) h1)) h0)) (fun h0 => h0) h)
theorem mod_bx (xN x xc : Nat) (xf : Nat → Int) (i : Int) (e : Nat) (hh : Nat → Int) (t6 t7 t8 t10 t15 t16 t17 t18 t19 t20 t21 t22 t23 t24 t25 t26 t27 t28 t29 t30 t31 t32 t33 t34 t35 t36 t37 t38 t39 t40 t41 t42 t43 t44 t45 t46 : V) (d : Made) : (spineW Tryd.prog o64 GM 1 600 (body Tryd.f42) (ends Tryd.prog Tryd.f42 fun v m => madeK d v m)) (.exit 0) ⟨[(V.sl 0 0 x xc), V.un, V.snil, (V.sl 1 0 32 32), (V.sl 2 0 33 (e + 33)), (V.int .i64 i), t6, t7, t8, (V.sl 1 0 32 32), t10, (V.sl 0 0 x xc), (V.int .i64 ((x : Nat) : Int)), (V.int .i64 (mulI .i64 8 ((x : Nat) : Int))), (V.int .i64 (subI .i64 (mulI .i64 8 ((x : Nat) : Int)) 1)), t15, t16, t17, t18, t19, t20, t21, t22, t23, t24, t25, t26, t27, t28, t29, t30, t31, t32, t33, t34, t35, t36, t37, t38, t39, t40, t41, t42, t43, t44, t45, t46, V.un], [(V.tup [(V.ints .i64 xN xf)]), (V.ints .i64 32 ordN), (V.ints .i64 (e + 33) hh)]⟩ = ((fun v m => madeK d v m) (V.sl 2 0 33 (e + 33)) [(V.tup [(V.ints .i64 xN xf)]), (V.ints .i64 32 ordN), (V.ints .i64 (e + 33) hh)]) := by kernel_rfl
end Go.Proofs.YtnoehjibponofaaDoor

/-
  The words' own functions: products and sums with carry, a width, words out of bytes and back. Conditions: none.
-/
namespace Go.Proofs.YtnoehjibponofaaDoor
open Go.Ev
/- bits.Add64, bits.Sub64: the model's own entries -/
def aS (x y c : Int) : Int := (((x.toNat + y.toNat + c.toNat) % 18446744073709551616 : Nat) : Int)
def aC (x y c : Int) : Int := (((x.toNat + y.toNat + c.toNat) / 18446744073709551616 : Nat) : Int)
def sD (x y c : Int) : Int := (((x.toNat + 18446744073709551616 - y.toNat - c.toNat) % 18446744073709551616 : Nat) : Int)
def sB (x y c : Int) : Int := ((if x.toNat < y.toNat + c.toNat then 1 else 0 : Nat) : Int)
theorem run_add {P : Program} (x y c : Int) (hc : c.toNat ≤ 1) (w : World) :
    (add64Entry #[.int .u64 x, .int .u64 y, .int .u64 c]).run P w = .ok (.tuple #[.int .u64 (aS x y c), .int .u64 (aC x y c)]) w := by
  cases c with
  | ofNat k =>
    have hc : k ≤ 1 := hc
    have : k = 0 ∨ k = 1 := by omega
    rcases this with rfl | rfl <;> rfl
  | negSucc k => rfl
def sub64Entry : Array Value → Sem Value := fun args => do
  let (x, y, b) ← Extern.MathBitsCarry.three "Sub64" args
  pure (Extern.MathBitsCarry.pair ((x + Extern.MathBitsCarry.m64 - y - b) % Extern.MathBitsCarry.m64) (if x < y + b then 1 else 0))
theorem run_sub {P : Program} (x y c : Int) (hc : c.toNat ≤ 1) (w : World) :
    (sub64Entry #[.int .u64 x, .int .u64 y, .int .u64 c]).run P w = .ok (.tuple #[.int .u64 (sD x y c), .int .u64 (sB x y c)]) w := by
  cases c with
  | ofNat k =>
    have hc : k ≤ 1 := hc
    have : k = 0 ∨ k = 1 := by omega
    rcases this with rfl | rfl <;> rfl
  | negSucc k => rfl
def g67 : List V → Option (Bool × V) := fun | [.int .u64 x, .int .u64 y, .int .u64 c] => some (Nat.ble c.toNat 1, .tup [.int .u64 (aS x y c), .int .u64 (aC x y c)]) | _ => none
theorem g67_ok (vs : List V) (v : V) (h : g67 vs = some (true, v)) : (∀ μ μ', v.den μ' = v.den μ) ∧ ∀ μ w, PureAt Tryd.prog 67 (vs.map (V.den μ)).toArray (v.den μ) w := by
  unfold g67 at h
  split at h
  · rename_i x y c
    simp only [Option.some.injEq, Prod.mk.injEq] at h
    obtain ⟨h, rfl⟩ := h
    refine ⟨fun μ μ' => by simp [V.den, V.dens], fun μ w => .inl ?_⟩
    rw [run_callFunc_extern Tryd.func67 (by kernel_rfl) (by kernel_rfl) (by kernel_rfl) (e := add64Entry) (by kernel_rfl)]
    simp only [List.map_cons, List.map_nil, V.den, V.dens]
    rw [run_add x y c (bleT.1 h)]
    rfl
  · simp at h
def p67 : Orc := ext 67 g67 orc0
theorem p67_ok : OrcOK Tryd.prog p67 := ext_ok orc0_ok g67_ok
def g65 : List V → Option (Bool × V) := fun | [.int .u64 x, .int .u64 y, .int .u64 c] => some (Nat.ble c.toNat 1, .tup [.int .u64 (sD x y c), .int .u64 (sB x y c)]) | _ => none
theorem g65_ok (vs : List V) (v : V) (h : g65 vs = some (true, v)) : (∀ μ μ', v.den μ' = v.den μ) ∧ ∀ μ w, PureAt Tryd.prog 65 (vs.map (V.den μ)).toArray (v.den μ) w := by
  unfold g65 at h
  split at h
  · rename_i x y c
    simp only [Option.some.injEq, Prod.mk.injEq] at h
    obtain ⟨h, rfl⟩ := h
    refine ⟨fun μ μ' => by simp [V.den, V.dens], fun μ w => .inl ?_⟩
    rw [run_callFunc_extern Tryd.func65 (by kernel_rfl) (by kernel_rfl) (by kernel_rfl) (e := sub64Entry) (by kernel_rfl)]
    simp only [List.map_cons, List.map_nil, V.den, V.dens]
    rw [run_sub x y c (bleT.1 h)]
    rfl
  · simp at h
def p65 : Orc := ext 65 g65 p67
theorem p65_ok : OrcOK Tryd.prog p65 := ext_ok p67_ok g65_ok
/- math/bits.Mul64 -/
def mul64 (x : Int) (y : Int) : (Int × Int) := ((addI .u64 (addI .u64 (mulI .u64 (shrI .u64 x 32) (shrI .u64 y 32)) (shrI .u64 (addI .u64 (mulI .u64 (shrI .u64 x 32) (andI .u64 y 4294967295)) (shrI .u64 (mulI .u64 (andI .u64 x 4294967295) (andI .u64 y 4294967295)) 32)) 32)) (shrI .u64 (addI .u64 (andI .u64 (addI .u64 (mulI .u64 (shrI .u64 x 32) (andI .u64 y 4294967295)) (shrI .u64 (mulI .u64 (andI .u64 x 4294967295) (andI .u64 y 4294967295)) 32)) 4294967295) (mulI .u64 (andI .u64 x 4294967295) (shrI .u64 y 32))) 32)), (mulI .u64 x y))
theorem mul64_t (x : Int) (y : Int) : awp Tryd.prog p65 noG 300 (body Tryd.f66) (ends Tryd.prog Tryd.f66 fun v _ => okV (V.tup [(V.int .u64 (mul64 x y).1), (V.int .u64 (mul64 x y).2)]) v) ⟨[(V.int .u64 x), (V.int .u64 y)] ++ List.replicate 49 V.un, []⟩ = ((V.tup [(V.int .u64 (mul64 x y).1), (V.int .u64 (mul64 x y).2)]).den z0 = (V.tup [(V.int .u64 (mul64 x y).1), (V.int .u64 (mul64 x y).2)]).den z0) := by kernel_rfl
theorem mul64_a (x : Int) (y : Int) : awp Tryd.prog p65 noG 300 (body Tryd.f66) (ends Tryd.prog Tryd.f66 fun v _ => okV (V.tup [(V.int .u64 (mul64 x y).1), (V.int .u64 (mul64 x y).2)]) v) ⟨[(V.int .u64 x), (V.int .u64 y)] ++ List.replicate 49 V.un, []⟩ := by rw [mul64_t]
def g66 : List V → Option (Bool × V) := fun | [.int .u64 x, .int .u64 y] => some (true, (V.tup [(V.int .u64 (mul64 x y).1), (V.int .u64 (mul64 x y).2)])) | _ => none
theorem mul64_p (x : Int) (y : Int) : (∀ μ μ', V.den μ' (V.tup [(V.int .u64 (mul64 x y).1), (V.int .u64 (mul64 x y).2)]) = V.den μ (V.tup [(V.int .u64 (mul64 x y).1), (V.int .u64 (mul64 x y).2)])) ∧ ∀ μ w, PureAt Tryd.prog 66 (([(V.int .u64 x), (V.int .u64 y)] : List V).map (V.den μ)).toArray (V.den μ (V.tup [(V.int .u64 (mul64 x y).1), (V.int .u64 (mul64 x y).2)])) w :=
  pure_ok (F := p65) (N := 300) (fn := Tryd.f66) (args := [(V.int .u64 x), (V.int .u64 y)]) (r := (V.tup [(V.int .u64 (mul64 x y).1), (V.int .u64 (mul64 x y).2)])) (n := 49) hM p65_ok (noG_ok _) Tryd.func66 (by kernel_rfl) (by kernel_rfl) (by kernel_rfl) (by kernel_rfl) (mul64_a x y) (by kernel_rfl)
theorem g66_ok (vs : List V) (v : V) (h : g66 vs = some (true, v)) : (∀ μ μ', v.den μ' = v.den μ) ∧ ∀ μ w, PureAt Tryd.prog 66 (vs.map (V.den μ)).toArray (v.den μ) w := by
  unfold g66 at h
  split at h
  · simp only [Option.some.injEq, Prod.mk.injEq, true_and] at h
    subst h
    exact mul64_p _ _
  · simp at h
def p66 : Orc := ext 66 g66 p65
theorem p66_ok : OrcOK Tryd.prog p66 := ext_ok p65_ok g66_ok

/- bits.width[uint64] -/
def widthF : Int := 64
theorem widthF_t : awp Tryd.prog p66 noG 300 (body Tryd.f69) (ends Tryd.prog Tryd.f69 fun v _ => okV (V.int .i64 widthF) v) ⟨[] ++ List.replicate 12 V.un, []⟩ = ((V.int .i64 widthF).den z0 = (V.int .i64 widthF).den z0) := by kernel_rfl
theorem widthF_a : awp Tryd.prog p66 noG 300 (body Tryd.f69) (ends Tryd.prog Tryd.f69 fun v _ => okV (V.int .i64 widthF) v) ⟨[] ++ List.replicate 12 V.un, []⟩ := by rw [widthF_t]
def g69 : List V → Option (Bool × V) := fun | [] => some (true, (V.int .i64 widthF)) | _ => none
theorem widthF_p : (∀ μ μ', V.den μ' (V.int .i64 widthF) = V.den μ (V.int .i64 widthF)) ∧ ∀ μ w, PureAt Tryd.prog 69 (([] : List V).map (V.den μ)).toArray (V.den μ (V.int .i64 widthF)) w :=
  pure_ok (F := p66) (N := 300) (fn := Tryd.f69) (args := []) (r := (V.int .i64 widthF)) (n := 12) hM p66_ok (noG_ok _) Tryd.func69 (by kernel_rfl) (by kernel_rfl) (by kernel_rfl) (by kernel_rfl) (widthF_a) (by kernel_rfl)
theorem g69_ok (vs : List V) (v : V) (h : g69 vs = some (true, v)) : (∀ μ μ', v.den μ' = v.den μ) ∧ ∀ μ w, PureAt Tryd.prog 69 (vs.map (V.den μ)).toArray (v.den μ) w := by
  unfold g69 at h
  split at h
  · simp only [Option.some.injEq, Prod.mk.injEq, true_and] at h
    subst h
    exact widthF_p
  · simp at h
def p69 : Orc := ext 69 g69 p66
theorem p69_ok : OrcOK Tryd.prog p69 := ext_ok p66_ok g69_ok

end Go.Proofs.YtnoehjibponofaaDoor

/-
  Words out of bytes and back; numbers out of bytes and back. Conditions: none.
-/
namespace Go.Proofs.YtnoehjibponofaaDoor
open Go.Ev
def G60 : GOrc := inl Tryd.prog p69 300 60 Tryd.f60 noG
theorem G60_ok : GOrcOK Tryd.prog G60 := inl_ok hM p69_ok (noG_ok _) Tryd.func60 (by kernel_rfl) (by kernel_rfl)
/-- k bytes read, the lowest first. -/
def ldR (f : Nat → Int) (at' : Nat) : Nat → Int
  | 0 => 0
  | k + 1 => orI .u64 (ldR f at' k) (shlI .u64 (IntKind.wrap .u64 (f (at' + k))) ((8 * k : Nat) : Int))
theorem ld32_0 (f : Nat → Int) : awp Tryd.prog p69 G60 300 (body Tryd.f38) (ends Tryd.prog Tryd.f38 fun v _ => okV (V.tup [V.int .u64 (ldR f 0 8), V.bool true]) v) ⟨[V.sl 0 0 32 32, V.int .i64 0] ++ List.replicate 29 V.un, [V.tup [V.ints .u8 32 f]]⟩ = okV (V.tup [V.int .u64 (ldR f 0 8), V.bool true]) (V.tup [V.int .u64 (ldR f 0 8), V.bool true]) := by kernel_rfl
theorem ld32_8 (f : Nat → Int) : awp Tryd.prog p69 G60 300 (body Tryd.f38) (ends Tryd.prog Tryd.f38 fun v _ => okV (V.tup [V.int .u64 (ldR f 8 8), V.bool true]) v) ⟨[V.sl 0 0 32 32, V.int .i64 8] ++ List.replicate 29 V.un, [V.tup [V.ints .u8 32 f]]⟩ = okV (V.tup [V.int .u64 (ldR f 8 8), V.bool true]) (V.tup [V.int .u64 (ldR f 8 8), V.bool true]) := by kernel_rfl
theorem ld32_16 (f : Nat → Int) : awp Tryd.prog p69 G60 300 (body Tryd.f38) (ends Tryd.prog Tryd.f38 fun v _ => okV (V.tup [V.int .u64 (ldR f 16 8), V.bool true]) v) ⟨[V.sl 0 0 32 32, V.int .i64 16] ++ List.replicate 29 V.un, [V.tup [V.ints .u8 32 f]]⟩ = okV (V.tup [V.int .u64 (ldR f 16 8), V.bool true]) (V.tup [V.int .u64 (ldR f 16 8), V.bool true]) := by kernel_rfl
theorem ld32_24 (f : Nat → Int) : awp Tryd.prog p69 G60 300 (body Tryd.f38) (ends Tryd.prog Tryd.f38 fun v _ => okV (V.tup [V.int .u64 (ldR f 24 8), V.bool true]) v) ⟨[V.sl 0 0 32 32, V.int .i64 24] ++ List.replicate 29 V.un, [V.tup [V.ints .u8 32 f]]⟩ = okV (V.tup [V.int .u64 (ldR f 24 8), V.bool true]) (V.tup [V.int .u64 (ldR f 24 8), V.bool true]) := by kernel_rfl
theorem ld64_0 (f : Nat → Int) : awp Tryd.prog p69 G60 300 (body Tryd.f38) (ends Tryd.prog Tryd.f38 fun v _ => okV (V.tup [V.int .u64 (ldR f 0 8), V.bool true]) v) ⟨[V.sl 0 0 64 64, V.int .i64 0] ++ List.replicate 29 V.un, [V.tup [V.ints .u8 64 f]]⟩ = okV (V.tup [V.int .u64 (ldR f 0 8), V.bool true]) (V.tup [V.int .u64 (ldR f 0 8), V.bool true]) := by kernel_rfl
theorem ld64_8 (f : Nat → Int) : awp Tryd.prog p69 G60 300 (body Tryd.f38) (ends Tryd.prog Tryd.f38 fun v _ => okV (V.tup [V.int .u64 (ldR f 8 8), V.bool true]) v) ⟨[V.sl 0 0 64 64, V.int .i64 8] ++ List.replicate 29 V.un, [V.tup [V.ints .u8 64 f]]⟩ = okV (V.tup [V.int .u64 (ldR f 8 8), V.bool true]) (V.tup [V.int .u64 (ldR f 8 8), V.bool true]) := by kernel_rfl
theorem ld64_16 (f : Nat → Int) : awp Tryd.prog p69 G60 300 (body Tryd.f38) (ends Tryd.prog Tryd.f38 fun v _ => okV (V.tup [V.int .u64 (ldR f 16 8), V.bool true]) v) ⟨[V.sl 0 0 64 64, V.int .i64 16] ++ List.replicate 29 V.un, [V.tup [V.ints .u8 64 f]]⟩ = okV (V.tup [V.int .u64 (ldR f 16 8), V.bool true]) (V.tup [V.int .u64 (ldR f 16 8), V.bool true]) := by kernel_rfl
theorem ld64_24 (f : Nat → Int) : awp Tryd.prog p69 G60 300 (body Tryd.f38) (ends Tryd.prog Tryd.f38 fun v _ => okV (V.tup [V.int .u64 (ldR f 24 8), V.bool true]) v) ⟨[V.sl 0 0 64 64, V.int .i64 24] ++ List.replicate 29 V.un, [V.tup [V.ints .u8 64 f]]⟩ = okV (V.tup [V.int .u64 (ldR f 24 8), V.bool true]) (V.tup [V.int .u64 (ldR f 24 8), V.bool true]) := by kernel_rfl
theorem ld64_32 (f : Nat → Int) : awp Tryd.prog p69 G60 300 (body Tryd.f38) (ends Tryd.prog Tryd.f38 fun v _ => okV (V.tup [V.int .u64 (ldR f 32 8), V.bool true]) v) ⟨[V.sl 0 0 64 64, V.int .i64 32] ++ List.replicate 29 V.un, [V.tup [V.ints .u8 64 f]]⟩ = okV (V.tup [V.int .u64 (ldR f 32 8), V.bool true]) (V.tup [V.int .u64 (ldR f 32 8), V.bool true]) := by kernel_rfl
theorem ld64_40 (f : Nat → Int) : awp Tryd.prog p69 G60 300 (body Tryd.f38) (ends Tryd.prog Tryd.f38 fun v _ => okV (V.tup [V.int .u64 (ldR f 40 8), V.bool true]) v) ⟨[V.sl 0 0 64 64, V.int .i64 40] ++ List.replicate 29 V.un, [V.tup [V.ints .u8 64 f]]⟩ = okV (V.tup [V.int .u64 (ldR f 40 8), V.bool true]) (V.tup [V.int .u64 (ldR f 40 8), V.bool true]) := by kernel_rfl
theorem ld64_48 (f : Nat → Int) : awp Tryd.prog p69 G60 300 (body Tryd.f38) (ends Tryd.prog Tryd.f38 fun v _ => okV (V.tup [V.int .u64 (ldR f 48 8), V.bool true]) v) ⟨[V.sl 0 0 64 64, V.int .i64 48] ++ List.replicate 29 V.un, [V.tup [V.ints .u8 64 f]]⟩ = okV (V.tup [V.int .u64 (ldR f 48 8), V.bool true]) (V.tup [V.int .u64 (ldR f 48 8), V.bool true]) := by kernel_rfl
theorem ld64_56 (f : Nat → Int) : awp Tryd.prog p69 G60 300 (body Tryd.f38) (ends Tryd.prog Tryd.f38 fun v _ => okV (V.tup [V.int .u64 (ldR f 56 8), V.bool true]) v) ⟨[V.sl 0 0 64 64, V.int .i64 56] ++ List.replicate 29 V.un, [V.tup [V.ints .u8 64 f]]⟩ = okV (V.tup [V.int .u64 (ldR f 56 8), V.bool true]) (V.tup [V.int .u64 (ldR f 56 8), V.bool true]) := by kernel_rfl
def atOK (n : Nat) (i : Int) : Bool := match n with
  | 32 => i == 0 || i == 8 || i == 16 || i == 24
  | 64 => i == 0 || i == 8 || i == 16 || i == 24 || i == 32 || i == 40 || i == 48 || i == 56
  | _ => false
theorem ld_a {n : Nat} {i : Int} {f : Nat → Int} (h : atOK n i = true) : awp Tryd.prog p69 G60 300 (body Tryd.f38) (ends Tryd.prog Tryd.f38 fun v _ => okV (V.tup [V.int .u64 (ldR f i.toNat 8), V.bool true]) v) ⟨[V.sl 0 0 n n, V.int .i64 i] ++ List.replicate 29 V.un, [V.tup [V.ints .u8 n f]]⟩ := by
  unfold atOK at h
  split at h
  · simp only [Bool.or_eq_true, beq_iff_eq] at h
    rcases h with ((rfl | rfl) | rfl) | rfl
    · exact (ld32_0 f).mpr (okV_refl rfl)
    · exact (ld32_8 f).mpr (okV_refl rfl)
    · exact (ld32_16 f).mpr (okV_refl rfl)
    · exact (ld32_24 f).mpr (okV_refl rfl)
  · simp only [Bool.or_eq_true, beq_iff_eq] at h
    rcases h with ((((((rfl | rfl) | rfl) | rfl) | rfl) | rfl) | rfl) | rfl
    · exact (ld64_0 f).mpr (okV_refl rfl)
    · exact (ld64_8 f).mpr (okV_refl rfl)
    · exact (ld64_16 f).mpr (okV_refl rfl)
    · exact (ld64_24 f).mpr (okV_refl rfl)
    · exact (ld64_32 f).mpr (okV_refl rfl)
    · exact (ld64_40 f).mpr (okV_refl rfl)
    · exact (ld64_48 f).mpr (okV_refl rfl)
    · exact (ld64_56 f).mpr (okV_refl rfl)
  · cases h
def g38 : List V → List V → Option (Bool × V) := fun vs m => match views [] vs m with
  | some ([.sl 0 0 n c, .int .i64 i], [.tup [.ints .u8 N f]]) => some (Nat.beq c n && Nat.beq N n && atOK n i, .tup [.int .u64 (ldR f i.toNat 8), .bool true])
  | _ => none
theorem g38_ok (vs m : List V) (v : V) (h : g38 vs m = some (true, v)) : v.flat = true ∧ ∀ μ B w0 w, Under B w0 → Rel μ B w0 m w → PureAt Tryd.prog 38 (vs.map (V.den μ)).toArray (v.den μ) w := by
  unfold g38 at h
  split at h
  · rename_i n c i N f hv
    simp only [Option.some.injEq, Prod.mk.injEq, Bool.and_eq_true] at h
    obtain ⟨⟨⟨h1, h2⟩, h3⟩, rfl⟩ := h
    have h1 := beqT.1 h1; have h2 := beqT.1 h2; subst h1; subst h2
    refine ⟨rfl, ?_⟩
    exact reads_ok (fn := Tryd.f38) (N := 300) (n := 29) hM p69_ok G60_ok Tryd.func38 (by kernel_rfl) (by kernel_rfl) hv rfl (ld_a h3) (by kernel_rfl)
  · cases h
theorem g38_grow (vs m : List V) (z : V) (r : Bool × V) (h : g38 vs m = some r) : g38 vs (m ++ [z]) = some r := by
  unfold g38 at h ⊢
  cases hv : views [] vs m with
  | none => rw [hv] at h; cases h
  | some p => rw [hv] at h; rw [views_grow hv]; exact h
def p38 : Orc := extM 38 g38 p69
theorem p38_ok : OrcOK Tryd.prog p38 := extM_ok p69_ok g38_ok g38_grow
end Go.Proofs.YtnoehjibponofaaDoor

/-
  The numbers of four words: read, told, added, taken away. Conditions: none.
-/
namespace Go.Proofs.YtnoehjibponofaaDoor
open Go.Ev
def loadF (f : Nat → Int) : Nat → Int := fun i => ldR f (8 * i) 8
theorem load_t (f : Nat → Int) : awp Tryd.prog p38 noG 300 (body Tryd.f44) (ends Tryd.prog Tryd.f44 fun v _ => okV (V.ints .u64 4 (loadF f)) v) ⟨[V.ints .u8 32 f] ++ List.replicate 18 V.un, []⟩ = ((V.ints .u64 4 (loadF f)).den z0 = (V.ints .u64 4 (loadF f)).den z0) := by kernel_rfl
theorem load_a (f : Nat → Int) : awp Tryd.prog p38 noG 300 (body Tryd.f44) (ends Tryd.prog Tryd.f44 fun v _ => okV (V.ints .u64 4 (loadF f)) v) ⟨[V.ints .u8 32 f] ++ List.replicate 18 V.un, []⟩ := by
  rw [load_t]
def g44 : List V → Option (Bool × V) := fun | [.ints .u8 32 f] => some (true, (V.ints .u64 4 (loadF f))) | _ => none
theorem g44_ok (vs : List V) (v : V) (h : g44 vs = some (true, v)) : (∀ μ μ', v.den μ' = v.den μ) ∧ ∀ μ w, PureAt Tryd.prog 44 (vs.map (V.den μ)).toArray (v.den μ) w := by
  unfold g44 at h
  split at h
  · simp only [Option.some.injEq, Prod.mk.injEq, true_and] at h
    subst h
    exact pure_ok (F := p38) (N := 300) (fn := Tryd.f44) (args := [_]) (r := _) (n := 18) hM p38_ok (noG_ok _) Tryd.func44 (by kernel_rfl) (by kernel_rfl) (by kernel_rfl) (by kernel_rfl) (load_a _) (by kernel_rfl)
  · simp at h
def p44 : Orc := ext 44 g44 p38
theorem p44_ok : OrcOK Tryd.prog p44 := ext_ok p38_ok g44_ok
def u1 (a : Int) : Bool := decide (0 ≤ a ∧ a < 18446744073709551616)
def u4 (x : Nat → Int) : Bool := u1 (x 0) && u1 (x 1) && u1 (x 2) && u1 (x 3)
theorem u4_at {x : Nat → Int} (h : u4 x = true) : ∀ j, j < 4 → 0 ≤ x j ∧ x j < 18446744073709551616 := by
  simp only [u4, u1, Bool.and_eq_true, decide_eq_true_eq] at h
  obtain ⟨⟨⟨h0, h1⟩, h2⟩, h3⟩ := h
  intro j hj
  have : j = 0 ∨ j = 1 ∨ j = 2 ∨ j = 3 := by omega
  rcases this with rfl | rfl | rfl | rfl <;> assumption
theorem u4_mk {x : Nat → Int} (h : ∀ j, j < 4 → 0 ≤ x j ∧ x j < 18446744073709551616) : u4 x = true := by
  simp only [u4, u1, Bool.and_eq_true, decide_eq_true_eq]
  exact ⟨⟨⟨h 0 (by omega), h 1 (by omega)⟩, h 2 (by omega)⟩, h 3 (by omega)⟩
/-- The carry into word k. -/
def pc (x y : Nat → Int) : Nat → Int
  | 0 => 0
  | k + 1 => aC (x k) (y k) (pc x y k)
def plusF (x y : Nat → Int) : Nat → Int := fun k => aS (x k) (y k) (pc x y k)
theorem aC_le {x y c : Int} (hx : x < 18446744073709551616) (hy : y < 18446744073709551616) (hc : c.toNat ≤ 1) : (aC x y c).toNat ≤ 1 := by
  unfold aC
  rw [Int.toNat_natCast]
  omega
theorem pc_le {x y : Nat → Int} (hx : u4 x = true) (hy : u4 y = true) : ∀ k, k ≤ 4 → (pc x y k).toNat ≤ 1
  | 0, _ => by simp [pc]
  | k + 1, hk => aC_le (u4_at hx k (by omega)).2 (u4_at hy k (by omega)).2 (pc_le hx hy k (by omega))
/-- What was borrowed for word k. -/
def bc (x y : Nat → Int) : Nat → Int
  | 0 => 0
  | k + 1 => sB (x k) (y k) (bc x y k)
def minusF (x y : Nat → Int) : Nat → Int := fun k => sD (x k) (y k) (bc x y k)
theorem bc_le {x y : Nat → Int} : ∀ k, (bc x y k).toNat ≤ 1
  | 0 => by simp [bc]
  | k + 1 => by
    simp only [bc, sB]
    rw [Int.toNat_natCast]
    split <;> omega
theorem plus_t (x y : Nat → Int) : awp Tryd.prog p44 noG 300 (body Tryd.f50) (ends Tryd.prog Tryd.f50 fun v _ => okV (V.tup [V.ints .u64 4 (plusF x y), V.int .u64 (pc x y 4)]) v) ⟨[V.ints .u64 4 x, V.ints .u64 4 y] ++ List.replicate 25 V.un, []⟩ = (gB (Nat.ble (pc x y 1).toNat 1) (gB (Nat.ble (pc x y 2).toNat 1) (gB (Nat.ble (pc x y 3).toNat 1) ((V.tup [V.ints .u64 4 (plusF x y), V.int .u64 (pc x y 4)]).den z0 = (V.tup [V.ints .u64 4 (plusF x y), V.int .u64 (pc x y 4)]).den z0)))) := by kernel_rfl
theorem plus_a (x y : Nat → Int) (h : (u4 x && u4 y) = true) : awp Tryd.prog p44 noG 300 (body Tryd.f50) (ends Tryd.prog Tryd.f50 fun v _ => okV (V.tup [V.ints .u64 4 (plusF x y), V.int .u64 (pc x y 4)]) v) ⟨[V.ints .u64 4 x, V.ints .u64 4 y] ++ List.replicate 25 V.un, []⟩ := by
  rw [plus_t]
  obtain ⟨hx, hy⟩ := Bool.and_eq_true_iff.1 h
  exact gm (bleT.2 (pc_le hx hy 1 (by omega))) (gm (bleT.2 (pc_le hx hy 2 (by omega))) (gm (bleT.2 (pc_le hx hy 3 (by omega))) rfl))
def g50 : List V → Option (Bool × V) := fun | [.ints .u64 4 x, .ints .u64 4 y] => some ((u4 x && u4 y), (V.tup [V.ints .u64 4 (plusF x y), V.int .u64 (pc x y 4)])) | _ => none
theorem g50_ok (vs : List V) (v : V) (h : g50 vs = some (true, v)) : (∀ μ μ', v.den μ' = v.den μ) ∧ ∀ μ w, PureAt Tryd.prog 50 (vs.map (V.den μ)).toArray (v.den μ) w := by
  unfold g50 at h
  split at h
  · simp only [Option.some.injEq, Prod.mk.injEq] at h
    obtain ⟨h, rfl⟩ := h
    exact pure_ok (F := p44) (N := 300) (fn := Tryd.f50) (args := [_, _]) (r := _) (n := 25) hM p44_ok (noG_ok _) Tryd.func50 (by kernel_rfl) (by kernel_rfl) (by kernel_rfl) (by kernel_rfl) (plus_a _ _ h) (by kernel_rfl)
  · simp at h
def p50 : Orc := ext 50 g50 p44
theorem p50_ok : OrcOK Tryd.prog p50 := ext_ok p44_ok g50_ok
theorem minus_t (x y : Nat → Int) : awp Tryd.prog p50 noG 300 (body Tryd.f43) (ends Tryd.prog Tryd.f43 fun v _ => okV (V.tup [V.ints .u64 4 (minusF x y), V.int .u64 (bc x y 4)]) v) ⟨[V.ints .u64 4 x, V.ints .u64 4 y] ++ List.replicate 25 V.un, []⟩ = (gB (Nat.ble (bc x y 1).toNat 1) (gB (Nat.ble (bc x y 2).toNat 1) (gB (Nat.ble (bc x y 3).toNat 1) ((V.tup [V.ints .u64 4 (minusF x y), V.int .u64 (bc x y 4)]).den z0 = (V.tup [V.ints .u64 4 (minusF x y), V.int .u64 (bc x y 4)]).den z0)))) := by kernel_rfl
theorem minus_a (x y : Nat → Int) : awp Tryd.prog p50 noG 300 (body Tryd.f43) (ends Tryd.prog Tryd.f43 fun v _ => okV (V.tup [V.ints .u64 4 (minusF x y), V.int .u64 (bc x y 4)]) v) ⟨[V.ints .u64 4 x, V.ints .u64 4 y] ++ List.replicate 25 V.un, []⟩ := by
  rw [minus_t]
  exact gm (bleT.2 (bc_le 1)) (gm (bleT.2 (bc_le 2)) (gm (bleT.2 (bc_le 3)) rfl))
def g43 : List V → Option (Bool × V) := fun | [.ints .u64 4 x, .ints .u64 4 y] => some (true, (V.tup [V.ints .u64 4 (minusF x y), V.int .u64 (bc x y 4)])) | _ => none
theorem g43_ok (vs : List V) (v : V) (h : g43 vs = some (true, v)) : (∀ μ μ', v.den μ' = v.den μ) ∧ ∀ μ w, PureAt Tryd.prog 43 (vs.map (V.den μ)).toArray (v.den μ) w := by
  unfold g43 at h
  split at h
  · simp only [Option.some.injEq, Prod.mk.injEq, true_and] at h
    subst h
    exact pure_ok (F := p50) (N := 300) (fn := Tryd.f43) (args := [_, _]) (r := _) (n := 25) hM p50_ok (noG_ok _) Tryd.func43 (by kernel_rfl) (by kernel_rfl) (by kernel_rfl) (by kernel_rfl) (minus_a _ _) (by kernel_rfl)
  · simp at h
def p43 : Orc := ext 43 g43 p50
theorem p43_ok : OrcOK Tryd.prog p43 := ext_ok p50_ok g43_ok
/-- A word's bytes, the lowest first. -/
def stR (x : Int) : Nat → Int
  | 0 => x
  | k + 1 => shrI .u64 (stR x k) 8
def stB (x : Int) (k : Nat) : Int := IntKind.wrap .u8 (stR x k)
def G61 : GOrc := inl Tryd.prog p43 300 61 Tryd.f61 noG
theorem G61_ok : GOrcOK Tryd.prog G61 := inl_ok hM p43_ok (noG_ok _) Tryd.func61 (by kernel_rfl) (by kernel_rfl)
def storeF (x : Nat → Int) : Nat → Int := fun j => stB (x (j / 8)) (j % 8)
theorem store_t (x : Nat → Int) : awp Tryd.prog p43 G61 300 (body Tryd.f39) (ends Tryd.prog Tryd.f39 fun v _ => okV (V.ints .u8 32 (storeF x)) v) ⟨[V.ints .u64 4 x] ++ List.replicate 18 V.un, []⟩ = ((V.ints .u8 32 (storeF x)).den z0 = (V.ints .u8 32 (storeF x)).den z0) := by kernel_rfl
theorem store_a (x : Nat → Int) : awp Tryd.prog p43 G61 300 (body Tryd.f39) (ends Tryd.prog Tryd.f39 fun v _ => okV (V.ints .u8 32 (storeF x)) v) ⟨[V.ints .u64 4 x] ++ List.replicate 18 V.un, []⟩ := by
  rw [store_t]
def g39 : List V → Option (Bool × V) := fun | [.ints .u64 4 x] => some (true, (V.ints .u8 32 (storeF x))) | _ => none
theorem g39_ok (vs : List V) (v : V) (h : g39 vs = some (true, v)) : (∀ μ μ', v.den μ' = v.den μ) ∧ ∀ μ w, PureAt Tryd.prog 39 (vs.map (V.den μ)).toArray (v.den μ) w := by
  unfold g39 at h
  split at h
  · simp only [Option.some.injEq, Prod.mk.injEq, true_and] at h
    subst h
    exact pure_ok (F := p43) (N := 300) (fn := Tryd.f39) (args := [_]) (r := _) (n := 18) hM p43_ok (G61_ok) Tryd.func39 (by kernel_rfl) (by kernel_rfl) (by kernel_rfl) (by kernel_rfl) (store_a _) (by kernel_rfl)
  · simp at h
def p39 : Orc := ext 39 g39 p43
theorem p39_ok : OrcOK Tryd.prog p39 := ext_ok p43_ok g39_ok
end Go.Proofs.YtnoehjibponofaaDoor

/-
  Numbers of four words, as numbers; the order taken away until the number is below it. Conditions: none.
-/
namespace Go.Proofs.YtnoehjibponofaaDoor
open Go.Ev
def lv4 (f : Nat → Int) : Int := f 0 + 18446744073709551616 * f 1 + 340282366920938463463374607431768211456 * f 2 + 6277101735386680763835789423207666416102355444464034512896 * f 3
theorem aw {x y c : Int} (hx : 0 ≤ x) (hy : 0 ≤ y) (hc : 0 ≤ c) : aS x y c + 18446744073709551616 * aC x y c = x + y + c ∧ 0 ≤ aS x y c ∧ aS x y c < 18446744073709551616 ∧ 0 ≤ aC x y c := by
  unfold aS aC; omega
theorem sw1 {x y c : Int} (hx : 0 ≤ x) (hx1 : x < 18446744073709551616) (hy : 0 ≤ y) (hy1 : y < 18446744073709551616) (hc : 0 ≤ c) (hc1 : c.toNat ≤ 1) : sD x y c = x - y - c + 18446744073709551616 * sB x y c ∧ 0 ≤ sD x y c ∧ sD x y c < 18446744073709551616 ∧ 0 ≤ sB x y c := by
  unfold sD sB; split <;> omega
theorem pc_nn (x y : Nat → Int) : ∀ k, 0 ≤ pc x y k
  | 0 => by simp [pc]
  | k + 1 => by simp only [pc, aC]; omega
theorem bc_nn (x y : Nat → Int) : ∀ k, 0 ≤ bc x y k
  | 0 => by simp [bc]
  | k + 1 => by simp only [bc, sB]; omega
theorem plus_v {x y : Nat → Int} (hx : u4 x = true) (hy : u4 y = true) : lv4 (plusF x y) + 115792089237316195423570985008687907853269984665640564039457584007913129639936 * pc x y 4 = lv4 x + lv4 y ∧ u4 (plusF x y) = true := by
  have X := u4_at hx; have Y := u4_at hy
  have h : ∀ k, k < 4 → plusF x y k + 18446744073709551616 * pc x y (k + 1) = x k + y k + pc x y k ∧ 0 ≤ plusF x y k ∧ plusF x y k < 18446744073709551616 ∧ 0 ≤ pc x y (k + 1) :=
    fun k hk => aw (X k hk).1 (Y k hk).1 (pc_nn x y k)
  refine ⟨?_, u4_mk fun j hj => ⟨(h j hj).2.1, (h j hj).2.2.1⟩⟩
  obtain ⟨h0, -⟩ := h 0 (by omega); obtain ⟨h1, -⟩ := h 1 (by omega); obtain ⟨h2, -⟩ := h 2 (by omega); obtain ⟨h3, -⟩ := h 3 (by omega)
  have z : pc x y 0 = 0 := rfl
  simp only [Nat.zero_add, Nat.reduceAdd] at h0 h1 h2 h3
  unfold lv4
  generalize plusF x y = p at *
  generalize pc x y = c at *
  omega
theorem minus_v {x y : Nat → Int} (hx : u4 x = true) (hy : u4 y = true) : lv4 (minusF x y) = lv4 x - lv4 y + 115792089237316195423570985008687907853269984665640564039457584007913129639936 * bc x y 4 ∧ u4 (minusF x y) = true := by
  have X := u4_at hx; have Y := u4_at hy
  have h : ∀ k, k < 4 → minusF x y k = x k - y k - bc x y k + 18446744073709551616 * bc x y (k + 1) ∧ 0 ≤ minusF x y k ∧ minusF x y k < 18446744073709551616 ∧ 0 ≤ bc x y (k + 1) :=
    fun k hk => sw1 (X k hk).1 (X k hk).2 (Y k hk).1 (Y k hk).2 (bc_nn x y k) (bc_le k)
  refine ⟨?_, u4_mk fun j hj => ⟨(h j hj).2.1, (h j hj).2.2.1⟩⟩
  obtain ⟨h0, -⟩ := h 0 (by omega); obtain ⟨h1, -⟩ := h 1 (by omega); obtain ⟨h2, -⟩ := h 2 (by omega); obtain ⟨h3, -⟩ := h 3 (by omega)
  have z : bc x y 0 = 0 := rfl
  simp only [Nat.zero_add, Nat.reduceAdd] at h0 h1 h2 h3
  unfold lv4
  generalize minusF x y = p at *
  generalize bc x y = c at *
  omega
theorem lv4_nn {x : Nat → Int} (hx : u4 x = true) : 0 ≤ lv4 x ∧ lv4 x < 115792089237316195423570985008687907853269984665640564039457584007913129639936 := by
  have X := u4_at hx
  have h0 := X 0 (by omega); have h1 := X 1 (by omega); have h2 := X 2 (by omega); have h3 := X 3 (by omega)
  unfold lv4
  generalize x 0 = a at *; generalize x 1 = b at *; generalize x 2 = c at *; generalize x 3 = d at *
  omega
theorem bc4_01 (x y : Nat → Int) : bc x y 4 = 0 ∨ bc x y 4 = 1 := by
  have h1 := bc_nn x y 4; have h2 := bc_le (x := x) (y := y) 4
  omega
theorem minus_ge {x y : Nat → Int} (hx : u4 x = true) (hy : u4 y = true) (h : lv4 y ≤ lv4 x) : lv4 (minusF x y) = lv4 x - lv4 y ∧ bc x y 4 = 0 := by
  obtain ⟨h1, h2⟩ := minus_v hx hy
  have h3 := lv4_nn h2; have h4 := lv4_nn hx; have h5 := lv4_nn hy
  rcases bc4_01 x y with h6 | h6 <;> rw [h6] at h1 <;> omega
theorem minus_lt {x y : Nat → Int} (hx : u4 x = true) (hy : u4 y = true) (h : lv4 x < lv4 y) : bc x y 4 = 1 := by
  obtain ⟨h1, h2⟩ := minus_v hx hy
  have h3 := lv4_nn h2; have h4 := lv4_nn hx; have h5 := lv4_nn hy
  rcases bc4_01 x y with h6 | h6 <;> rw [h6] at h1 <;> omega
/-- Is the one below the other? From the highest word down. -/
def lessB (a o : Nat → Int) : Bool := (cond (decide (a 3 < o 3)) true (cond (decide (a 3 > o 3)) false (cond (decide (a 2 < o 2)) true (cond (decide (a 2 > o 2)) false (cond (decide (a 1 < o 1)) true (cond (decide (a 1 > o 1)) false (cond (decide (a 0 < o 0)) true (cond (decide (a 0 > o 0)) false false))))))))
theorem lessB_iff {a o : Nat → Int} (ha : u4 a = true) (ho : u4 o = true) : lessB a o = true ↔ lv4 a < lv4 o := by
  have A := u4_at ha; have O := u4_at ho
  have a0 := A 0 (by omega); have a1 := A 1 (by omega); have a2 := A 2 (by omega); have a3 := A 3 (by omega)
  have o0 := O 0 (by omega); have o1 := O 1 (by omega); have o2 := O 2 (by omega); have o3 := O 3 (by omega)
  unfold lessB lv4
  generalize a 0 = x0 at *; generalize a 1 = x1 at *; generalize a 2 = x2 at *; generalize a 3 = x3 at *
  generalize o 0 = y0 at *; generalize o 1 = y1 at *; generalize o 2 = y2 at *; generalize o 3 = y3 at *
  clear A O ha ho
  by_cases h3 : x3 < y3
  · simp only [h3, decide_true, cond_true]; exact ⟨fun _ => by omega, fun _ => trivial⟩
  by_cases g3 : x3 > y3
  · simp only [h3, g3, decide_true, decide_false, cond_true, cond_false]; constructor
    · intro h; cases h
    · intro h; omega
  by_cases h2 : x2 < y2
  · simp only [h3, g3, h2, decide_true, decide_false, cond_true, cond_false]; exact ⟨fun _ => by omega, fun _ => trivial⟩
  by_cases g2 : x2 > y2
  · simp only [h3, g3, h2, g2, decide_true, decide_false, cond_true, cond_false]; constructor
    · intro h; cases h
    · intro h; omega
  by_cases h1 : x1 < y1
  · simp only [h3, g3, h2, g2, h1, decide_true, decide_false, cond_true, cond_false]; exact ⟨fun _ => by omega, fun _ => trivial⟩
  by_cases g1 : x1 > y1
  · simp only [h3, g3, h2, g2, h1, g1, decide_true, decide_false, cond_true, cond_false]; constructor
    · intro h; cases h
    · intro h; omega
  by_cases h0 : x0 < y0
  · simp only [h3, g3, h2, g2, h1, g1, h0, decide_true, decide_false, cond_true, cond_false]; exact ⟨fun _ => by omega, fun _ => trivial⟩
  by_cases g0 : x0 > y0
  · simp only [h3, g3, h2, g2, h1, g1, h0, g0, decide_true, decide_false, cond_true, cond_false]; constructor
    · intro h; cases h
    · intro h; omega
  · simp only [h3, g3, h2, g2, h1, g1, h0, g0, decide_false, cond_false]; constructor
    · intro h; cases h
    · intro h; omega
def belowR (o : Nat → Int) : Nat → (Nat → Int) → Nat → Int
  | 0, a => a
  | n + 1, a => cond (lessB a o) a (belowR o n (minusF a o))
def fin (o : Nat → Int) : Nat → (Nat → Int) → Bool
  | 0, _ => false
  | n + 1, a => cond (lessB a o) true (fin o n (minusF a o))
theorem below_v {o : Nat → Int} (ho : u4 o = true) (hp : 0 < lv4 o) : ∀ (n : Nat) (a : Nat → Int), u4 a = true → lv4 a < (n : Int) * lv4 o → u4 (belowR o n a) = true ∧ lv4 (belowR o n a) = lv4 a % lv4 o ∧ fin o n a = true
  | 0, a, ha, h => by
    have := (lv4_nn ha).1
    omega
  | n + 1, a, ha, h => by
    cases hl : lessB a o with
    | true =>
      have h1 := (lessB_iff ha ho).1 hl
      simp only [belowR, fin, hl, cond_true]
      exact ⟨ha, (Int.emod_eq_of_lt (lv4_nn ha).1 h1).symm, trivial⟩
    | false =>
      have h1 : ¬ lv4 a < lv4 o := fun h => by rw [(lessB_iff ha ho).2 h] at hl; cases hl
      obtain ⟨h2, _⟩ := minus_ge ha ho (by omega)
      have h3 := (minus_v ha ho).2
      have h4 : lv4 (minusF a o) < (n : Int) * lv4 o := by
        rw [h2]
        have e : ((n + 1 : Nat) : Int) * lv4 o = (n : Int) * lv4 o + lv4 o := by rw [Int.natCast_add, Int.add_mul]; simp
        rw [e] at h
        omega
      obtain ⟨h5, h6, h7⟩ := below_v ho hp n _ h3 h4
      simp only [belowR, fin, hl, cond_false]
      refine ⟨h5, ?_, h7⟩
      rw [h6, h2]
      exact Int.sub_emod_right _ _
end Go.Proofs.YtnoehjibponofaaDoor

/-
  below: the walk. Conditions: none.
-/
namespace Go.Proofs.YtnoehjibponofaaDoor
open Go.Ev
theorem below_h (o x : Nat → Int) (N : Nat) (R : V) : awp Tryd.prog p39 noG N (body Tryd.f52) (ends Tryd.prog Tryd.f52 fun v _ => okV R v) ⟨[(V.ints .u64 4 x)] ++ List.replicate 28 V.un, [(V.tup [V.fn 2, (V.ints .u64 4 o)])]⟩ = (lp (awp Tryd.prog p39 noG N (loopOf (body Tryd.f52))) (spineQ Tryd.prog p39 noG N (body Tryd.f52) (ends Tryd.prog Tryd.f52 fun v _ => okV R v)) N ⟨[(V.ints .u64 4 x), (V.ptr 1 0), (V.ptr 2 0), V.un, V.un, V.un, V.un, V.un, V.un, V.un, V.un, V.un, V.un, V.un, V.un, V.un, V.un, V.un, V.un, V.un, V.un, V.un, V.un, V.un, V.un, V.un, V.un, V.un, V.un], [(V.tup [V.fn 2, (V.ints .u64 4 o)]), (V.ints .u64 4 x), (V.ints .u64 4 (fun _ => 0))]⟩) := by kernel_rfl
theorem below_s (o x : Nat → Int) (a : Nat → Int) (t3 t4 t5 t6 t7 t8 t9 t10 t11 t12 t13 t14 t15 t16 t17 t18 t19 t20 t21 t22 t23 t24 t25 t26 t27 : V) (Q : Exit → St → Prop) (m : Nat) : lp (awp Tryd.prog p39 noG 300 (loopOf (body Tryd.f52))) Q (m + 1) ⟨[(V.ints .u64 4 x), (V.ptr 1 0), (V.ptr 2 0), t3, t4, t5, t6, t7, t8, t9, t10, t11, t12, t13, t14, t15, t16, t17, t18, t19, t20, t21, t22, t23, t24, t25, t26, t27, V.un], [(V.tup [V.fn 2, (V.ints .u64 4 o)]), (V.ints .u64 4 a), (V.ints .u64 4 (fun _ => 0))]⟩ = (mB (decide ((a 3) < (o 3))) (Q (.exit 0) ⟨[(V.ints .u64 4 x), (V.ptr 1 0), (V.ptr 2 0), (V.int .i64 3), (V.int .i64 3), (V.bool true), t6, t7, (V.int .i64 3), (V.ptr 1 3), (V.int .u64 (a 3)), (V.int .i64 3), (V.wild (some ⟨2, 3, none⟩)), (V.int .u64 (o 3)), (V.bool (decide ((a 3) < (o 3)))), t15, t16, t17, t18, t19, t20, t21, t22, t23, t24, t25, t26, t27, V.un], [(V.tup [V.fn 2, (V.ints .u64 4 o)]), (V.ints .u64 4 a), (V.ints .u64 4 (fun _ => 0))]⟩) (mB (decide ((a 3) > (o 3))) (lp (awp Tryd.prog p39 noG 300 (loopOf (body Tryd.f52))) Q m ⟨[(V.ints .u64 4 x), (V.ptr 1 0), (V.ptr 2 0), (V.int .i64 3), (V.int .i64 3), (V.bool true), t6, t7, (V.int .i64 3), (V.ptr 1 3), (V.int .u64 (a 3)), (V.int .i64 3), (V.wild (some ⟨2, 3, none⟩)), (V.int .u64 (o 3)), (V.bool (decide ((a 3) < (o 3)))), (V.int .i64 3), (V.ptr 1 3), (V.int .u64 (a 3)), (V.int .i64 3), (V.wild (some ⟨2, 3, none⟩)), (V.int .u64 (o 3)), (V.bool (decide ((a 3) > (o 3)))), (V.tup [(V.ints .u64 4 (minusF a o)), (V.int .u64 (bc a o 4))]), (V.ints .u64 4 a), (V.ints .u64 4 o), (V.tup [(V.ints .u64 4 (minusF a o)), (V.int .u64 (bc a o 4))]), (V.ints .u64 4 (minusF a o)), (V.int .u64 (bc a o 4)), V.un], [(V.tup [V.fn 2, (V.ints .u64 4 o)]), (V.ints .u64 4 (minusF a o)), (V.ints .u64 4 (fun _ => 0))]⟩) (mB (decide ((a 2) < (o 2))) (Q (.exit 0) ⟨[(V.ints .u64 4 x), (V.ptr 1 0), (V.ptr 2 0), (V.int .i64 2), (V.int .i64 2), (V.bool true), (V.int .i64 3), (V.int .i64 2), (V.int .i64 2), (V.ptr 1 2), (V.int .u64 (a 2)), (V.int .i64 2), (V.wild (some ⟨2, 2, none⟩)), (V.int .u64 (o 2)), (V.bool (decide ((a 2) < (o 2)))), (V.int .i64 3), (V.ptr 1 3), (V.int .u64 (a 3)), (V.int .i64 3), (V.wild (some ⟨2, 3, none⟩)), (V.int .u64 (o 3)), (V.bool (decide ((a 3) > (o 3)))), t22, t23, t24, t25, t26, t27, V.un], [(V.tup [V.fn 2, (V.ints .u64 4 o)]), (V.ints .u64 4 a), (V.ints .u64 4 (fun _ => 0))]⟩) (mB (decide ((a 2) > (o 2))) (lp (awp Tryd.prog p39 noG 300 (loopOf (body Tryd.f52))) Q m ⟨[(V.ints .u64 4 x), (V.ptr 1 0), (V.ptr 2 0), (V.int .i64 2), (V.int .i64 2), (V.bool true), (V.int .i64 3), (V.int .i64 2), (V.int .i64 2), (V.ptr 1 2), (V.int .u64 (a 2)), (V.int .i64 2), (V.wild (some ⟨2, 2, none⟩)), (V.int .u64 (o 2)), (V.bool (decide ((a 2) < (o 2)))), (V.int .i64 2), (V.ptr 1 2), (V.int .u64 (a 2)), (V.int .i64 2), (V.wild (some ⟨2, 2, none⟩)), (V.int .u64 (o 2)), (V.bool (decide ((a 2) > (o 2)))), (V.tup [(V.ints .u64 4 (minusF a o)), (V.int .u64 (bc a o 4))]), (V.ints .u64 4 a), (V.ints .u64 4 o), (V.tup [(V.ints .u64 4 (minusF a o)), (V.int .u64 (bc a o 4))]), (V.ints .u64 4 (minusF a o)), (V.int .u64 (bc a o 4)), V.un], [(V.tup [V.fn 2, (V.ints .u64 4 o)]), (V.ints .u64 4 (minusF a o)), (V.ints .u64 4 (fun _ => 0))]⟩) (mB (decide ((a 1) < (o 1))) (Q (.exit 0) ⟨[(V.ints .u64 4 x), (V.ptr 1 0), (V.ptr 2 0), (V.int .i64 1), (V.int .i64 1), (V.bool true), (V.int .i64 2), (V.int .i64 1), (V.int .i64 1), (V.ptr 1 1), (V.int .u64 (a 1)), (V.int .i64 1), (V.wild (some ⟨2, 1, none⟩)), (V.int .u64 (o 1)), (V.bool (decide ((a 1) < (o 1)))), (V.int .i64 2), (V.ptr 1 2), (V.int .u64 (a 2)), (V.int .i64 2), (V.wild (some ⟨2, 2, none⟩)), (V.int .u64 (o 2)), (V.bool (decide ((a 2) > (o 2)))), t22, t23, t24, t25, t26, t27, V.un], [(V.tup [V.fn 2, (V.ints .u64 4 o)]), (V.ints .u64 4 a), (V.ints .u64 4 (fun _ => 0))]⟩) (mB (decide ((a 1) > (o 1))) (lp (awp Tryd.prog p39 noG 300 (loopOf (body Tryd.f52))) Q m ⟨[(V.ints .u64 4 x), (V.ptr 1 0), (V.ptr 2 0), (V.int .i64 1), (V.int .i64 1), (V.bool true), (V.int .i64 2), (V.int .i64 1), (V.int .i64 1), (V.ptr 1 1), (V.int .u64 (a 1)), (V.int .i64 1), (V.wild (some ⟨2, 1, none⟩)), (V.int .u64 (o 1)), (V.bool (decide ((a 1) < (o 1)))), (V.int .i64 1), (V.ptr 1 1), (V.int .u64 (a 1)), (V.int .i64 1), (V.wild (some ⟨2, 1, none⟩)), (V.int .u64 (o 1)), (V.bool (decide ((a 1) > (o 1)))), (V.tup [(V.ints .u64 4 (minusF a o)), (V.int .u64 (bc a o 4))]), (V.ints .u64 4 a), (V.ints .u64 4 o), (V.tup [(V.ints .u64 4 (minusF a o)), (V.int .u64 (bc a o 4))]), (V.ints .u64 4 (minusF a o)), (V.int .u64 (bc a o 4)), V.un], [(V.tup [V.fn 2, (V.ints .u64 4 o)]), (V.ints .u64 4 (minusF a o)), (V.ints .u64 4 (fun _ => 0))]⟩) (mB (decide ((a 0) < (o 0))) (Q (.exit 0) ⟨[(V.ints .u64 4 x), (V.ptr 1 0), (V.ptr 2 0), (V.int .i64 0), (V.int .i64 0), (V.bool true), (V.int .i64 1), (V.int .i64 0), (V.int .i64 0), (V.ptr 1 0), (V.int .u64 (a 0)), (V.int .i64 0), (V.wild (some ⟨2, 0, none⟩)), (V.int .u64 (o 0)), (V.bool (decide ((a 0) < (o 0)))), (V.int .i64 1), (V.ptr 1 1), (V.int .u64 (a 1)), (V.int .i64 1), (V.wild (some ⟨2, 1, none⟩)), (V.int .u64 (o 1)), (V.bool (decide ((a 1) > (o 1)))), t22, t23, t24, t25, t26, t27, V.un], [(V.tup [V.fn 2, (V.ints .u64 4 o)]), (V.ints .u64 4 a), (V.ints .u64 4 (fun _ => 0))]⟩) (mB (decide ((a 0) > (o 0))) (lp (awp Tryd.prog p39 noG 300 (loopOf (body Tryd.f52))) Q m ⟨[(V.ints .u64 4 x), (V.ptr 1 0), (V.ptr 2 0), (V.int .i64 0), (V.int .i64 0), (V.bool true), (V.int .i64 1), (V.int .i64 0), (V.int .i64 0), (V.ptr 1 0), (V.int .u64 (a 0)), (V.int .i64 0), (V.wild (some ⟨2, 0, none⟩)), (V.int .u64 (o 0)), (V.bool (decide ((a 0) < (o 0)))), (V.int .i64 0), (V.ptr 1 0), (V.int .u64 (a 0)), (V.int .i64 0), (V.wild (some ⟨2, 0, none⟩)), (V.int .u64 (o 0)), (V.bool (decide ((a 0) > (o 0)))), (V.tup [(V.ints .u64 4 (minusF a o)), (V.int .u64 (bc a o 4))]), (V.ints .u64 4 a), (V.ints .u64 4 o), (V.tup [(V.ints .u64 4 (minusF a o)), (V.int .u64 (bc a o 4))]), (V.ints .u64 4 (minusF a o)), (V.int .u64 (bc a o 4)), V.un], [(V.tup [V.fn 2, (V.ints .u64 4 o)]), (V.ints .u64 4 (minusF a o)), (V.ints .u64 4 (fun _ => 0))]⟩) (lp (awp Tryd.prog p39 noG 300 (loopOf (body Tryd.f52))) Q m ⟨[(V.ints .u64 4 x), (V.ptr 1 0), (V.ptr 2 0), (V.int .i64 (-1)), (V.int .i64 (-1)), (V.bool false), (V.int .i64 0), (V.int .i64 (-1)), (V.int .i64 0), (V.ptr 1 0), (V.int .u64 (a 0)), (V.int .i64 0), (V.wild (some ⟨2, 0, none⟩)), (V.int .u64 (o 0)), (V.bool (decide ((a 0) < (o 0)))), (V.int .i64 0), (V.ptr 1 0), (V.int .u64 (a 0)), (V.int .i64 0), (V.wild (some ⟨2, 0, none⟩)), (V.int .u64 (o 0)), (V.bool (decide ((a 0) > (o 0)))), (V.tup [(V.ints .u64 4 (minusF a o)), (V.int .u64 (bc a o 4))]), (V.ints .u64 4 a), (V.ints .u64 4 o), (V.tup [(V.ints .u64 4 (minusF a o)), (V.int .u64 (bc a o 4))]), (V.ints .u64 4 (minusF a o)), (V.int .u64 (bc a o 4)), V.un], [(V.tup [V.fn 2, (V.ints .u64 4 o)]), (V.ints .u64 4 (minusF a o)), (V.ints .u64 4 (fun _ => 0))]⟩))))))))) := by kernel_rfl
theorem below_x (o x : Nat → Int) (a : Nat → Int) (t3 t4 t5 t6 t7 t8 t9 t10 t11 t12 t13 t14 t15 t16 t17 t18 t19 t20 t21 t22 t23 t24 t25 t26 t27 : V) (R : V) : spineQ Tryd.prog p39 noG 300 (body Tryd.f52) (ends Tryd.prog Tryd.f52 fun v _ => okV R v) (.exit 0) ⟨[(V.ints .u64 4 x), (V.ptr 1 0), (V.ptr 2 0), t3, t4, t5, t6, t7, t8, t9, t10, t11, t12, t13, t14, t15, t16, t17, t18, t19, t20, t21, t22, t23, t24, t25, t26, t27, V.un], [(V.tup [V.fn 2, (V.ints .u64 4 o)]), (V.ints .u64 4 a), (V.ints .u64 4 (fun _ => 0))]⟩ = (okV R (V.ints .u64 4 a)) := by kernel_rfl
theorem bel_t {o a : Nat → Int} {n : Nat} (h : lessB a o = true) : belowR o (n + 1) a = a := by simp only [belowR, h, cond_true]
theorem bel_f {o a : Nat → Int} {n : Nat} (h : lessB a o = false) : belowR o (n + 1) a = belowR o n (minusF a o) := by simp only [belowR, h, cond_false]
theorem fin_f {o a : Nat → Int} {n : Nat} (hf : fin o (n + 1) a = true) (h : lessB a o = false) : fin o n (minusF a o) = true := by simpa only [fin, h, cond_false] using hf
theorem below_l (o x : Nat → Int) : ∀ (n m : Nat) (a : Nat → Int), fin o n a = true → n ≤ m → belowR o 16 x = belowR o n a → ∀ (t3 t4 t5 t6 t7 t8 t9 t10 t11 t12 t13 t14 t15 t16 t17 t18 t19 t20 t21 t22 t23 t24 t25 t26 t27 : V),
    lp (awp Tryd.prog p39 noG 300 (loopOf (body Tryd.f52))) (spineQ Tryd.prog p39 noG 300 (body Tryd.f52) (ends Tryd.prog Tryd.f52 fun v _ => okV (V.ints .u64 4 (belowR o 16 x)) v)) m ⟨[(V.ints .u64 4 x), (V.ptr 1 0), (V.ptr 2 0), t3, t4, t5, t6, t7, t8, t9, t10, t11, t12, t13, t14, t15, t16, t17, t18, t19, t20, t21, t22, t23, t24, t25, t26, t27, V.un], [(V.tup [V.fn 2, (V.ints .u64 4 o)]), (V.ints .u64 4 a), (V.ints .u64 4 (fun _ => 0))]⟩
  | 0, m, a, hf, _, _, t3, t4, t5, t6, t7, t8, t9, t10, t11, t12, t13, t14, t15, t16, t17, t18, t19, t20, t21, t22, t23, t24, t25, t26, t27 => by cases hf
  | n + 1, m, a, hf, hm, he, t3, t4, t5, t6, t7, t8, t9, t10, t11, t12, t13, t14, t15, t16, t17, t18, t19, t20, t21, t22, t23, t24, t25, t26, t27 => by
    obtain ⟨m, rfl⟩ : ∃ z, m = z + 1 := ⟨m - 1, by omega⟩
    rw [below_s]
    refine mBt (fun h1t => ?_) (fun h1f => ?_)
    · rw [below_x, he, bel_t (by simp only [lessB, h1t, cond_true])]
      exact okV_refl rfl
    · refine mBt (fun h2t => ?_) (fun h2f => ?_)
      · exact below_l o x n m _ (fin_f hf (by simp only [lessB, h1f, h2t, cond_true, cond_false])) (by omega) (he.trans (bel_f (by simp only [lessB, h1f, h2t, cond_true, cond_false]))) _ _ _ _ _ _ _ _ _ _ _ _ _ _ _ _ _ _ _ _ _ _ _ _ _
      · refine mBt (fun h3t => ?_) (fun h3f => ?_)
        · rw [below_x, he, bel_t (by simp only [lessB, h1f, h2f, h3t, cond_true, cond_false])]
          exact okV_refl rfl
        · refine mBt (fun h4t => ?_) (fun h4f => ?_)
          · exact below_l o x n m _ (fin_f hf (by simp only [lessB, h1f, h2f, h3f, h4t, cond_true, cond_false])) (by omega) (he.trans (bel_f (by simp only [lessB, h1f, h2f, h3f, h4t, cond_true, cond_false]))) _ _ _ _ _ _ _ _ _ _ _ _ _ _ _ _ _ _ _ _ _ _ _ _ _
          · refine mBt (fun h5t => ?_) (fun h5f => ?_)
            · rw [below_x, he, bel_t (by simp only [lessB, h1f, h2f, h3f, h4f, h5t, cond_true, cond_false])]
              exact okV_refl rfl
            · refine mBt (fun h6t => ?_) (fun h6f => ?_)
              · exact below_l o x n m _ (fin_f hf (by simp only [lessB, h1f, h2f, h3f, h4f, h5f, h6t, cond_true, cond_false])) (by omega) (he.trans (bel_f (by simp only [lessB, h1f, h2f, h3f, h4f, h5f, h6t, cond_true, cond_false]))) _ _ _ _ _ _ _ _ _ _ _ _ _ _ _ _ _ _ _ _ _ _ _ _ _
              · refine mBt (fun h7t => ?_) (fun h7f => ?_)
                · rw [below_x, he, bel_t (by simp only [lessB, h1f, h2f, h3f, h4f, h5f, h6f, h7t, cond_true, cond_false])]
                  exact okV_refl rfl
                · refine mBt (fun h8t => ?_) (fun h8f => ?_)
                  · exact below_l o x n m _ (fin_f hf (by simp only [lessB, h1f, h2f, h3f, h4f, h5f, h6f, h7f, h8t, cond_true, cond_false])) (by omega) (he.trans (bel_f (by simp only [lessB, h1f, h2f, h3f, h4f, h5f, h6f, h7f, h8t, cond_true, cond_false]))) _ _ _ _ _ _ _ _ _ _ _ _ _ _ _ _ _ _ _ _ _ _ _ _ _
                  · exact below_l o x n m _ (fin_f hf (by simp only [lessB, h1f, h2f, h3f, h4f, h5f, h6f, h7f, h8f, cond_false])) (by omega) (he.trans (bel_f (by simp only [lessB, h1f, h2f, h3f, h4f, h5f, h6f, h7f, h8f, cond_false]))) _ _ _ _ _ _ _ _ _ _ _ _ _ _ _ _ _ _ _ _ _ _ _ _ _

/-- L, by words. -/
def ordF : Nat → Int := L [6346243789798364141, 1503914060200516822, 0, 1152921504606846976]
theorem eqN_at {n : Nat} {f g : Nat → Int} : eqN n f g = true → ∀ j, j < n → f j = g j := by
  induction n with
  | zero => intro _ j hj; omega
  | succ n ih =>
    intro h j hj
    simp only [eqN, Bool.and_eq_true, beq_iff_eq] at h
    by_cases e : j = n
    · subst e; exact h.2
    · exact ih h.1 j (by omega)
theorem ord_u4 : u4 ordF = true := by decide
theorem ord_v : lv4 ordF = 7237005577332262213973186563042994240857116359379907606001950938285454250989 := by decide
theorem eq_ord {o : Nat → Int} (h : eqN 4 o ordF = true) : u4 o = true ∧ lv4 o = 7237005577332262213973186563042994240857116359379907606001950938285454250989 := by
  have e := eqN_at h
  have e0 := e 0 (by omega); have e1 := e 1 (by omega); have e2 := e 2 (by omega); have e3 := e 3 (by omega)
  refine ⟨?_, ?_⟩
  · have := ord_u4
    simp only [u4] at this ⊢
    rw [e0, e1, e2, e3]; exact this
  · rw [← ord_v]
    simp only [lv4]
    rw [e0, e1, e2, e3]
theorem fin_ok {o x : Nat → Int} (hx : u4 x = true) (ho : eqN 4 o ordF = true) : u4 (belowR o 16 x) = true ∧ lv4 (belowR o 16 x) = lv4 x % 7237005577332262213973186563042994240857116359379907606001950938285454250989 ∧ fin o 16 x = true := by
  obtain ⟨h1, h2⟩ := eq_ord ho
  have := lv4_nn hx
  have := below_v h1 (by rw [h2]; omega) 16 x hx (by rw [h2]; omega)
  rwa [h2] at this
theorem below_a {o x : Nat → Int} (hx : u4 x = true) (ho : eqN 4 o ordF = true) : awp Tryd.prog p39 noG 300 (body Tryd.f52) (ends Tryd.prog Tryd.f52 fun v _ => okV (V.ints .u64 4 (belowR o 16 x)) v) ⟨[V.ints .u64 4 x] ++ List.replicate 28 V.un, [V.tup [V.fn 2, V.ints .u64 4 o]]⟩ := by
  rw [below_h]
  exact below_l o x 16 300 x (fin_ok hx ho).2.2 (by omega) rfl _ _ _ _ _ _ _ _ _ _ _ _ _ _ _ _ _ _ _ _ _ _ _ _ _
def g52 : List V → List V → Option (Bool × V) := fun vs m => match views [2] vs m with
  | some ([.ints .u64 4 x], [.tup [.fn 2, .ints .u64 4 o]]) => some (u4 x && eqN 4 o ordF, .ints .u64 4 (belowR o 16 x))
  | _ => none
theorem g52_ok (vs m : List V) (v : V) (h : g52 vs m = some (true, v)) : v.flat = true ∧ ∀ μ B w0 w, Under B w0 → Rel μ B w0 m w → PureAt Tryd.prog 52 (vs.map (V.den μ)).toArray (v.den μ) w := by
  unfold g52 at h
  split at h
  · rename_i x o hv
    simp only [Option.some.injEq, Prod.mk.injEq, Bool.and_eq_true] at h
    obtain ⟨⟨h1, h2⟩, rfl⟩ := h
    refine ⟨rfl, ?_⟩
    exact reads_ok (fn := Tryd.f52) (N := 300) (n := 28) hM p39_ok (noG_ok _) Tryd.func52 (by kernel_rfl) (by kernel_rfl) hv rfl (below_a h1 h2) (by kernel_rfl)
  · cases h
theorem g52_grow (vs m : List V) (z : V) (r : Bool × V) (h : g52 vs m = some r) : g52 vs (m ++ [z]) = some r := by
  unfold g52 at h ⊢
  cases hv : views [2] vs m with
  | none => rw [hv] at h; cases h
  | some p => rw [hv] at h; rw [views_grow hv]; exact h
def p52 : Orc := extM 52 g52 p39
theorem p52_ok : OrcOK Tryd.prog p52 := extM_ok p39_ok g52_ok g52_grow
end Go.Proofs.YtnoehjibponofaaDoor
