/-
  A part of the groundwork of this seat's claims: an evaluator over the program, walks, and plain mathematics. Conditions: none.
-/
import Derived.Test.YtnoehjibponofaaDoorY07
/-
  The document's Digits: a contract. Conditions: none.
-/
namespace Go.Proofs.YtnoehjibponofaaDoor
open Go.Ev Go.Num
set_option linter.unusedVariables false
def ddF (g : Nat → Int) : Nat → (Nat → Int)
  | 0 => fun _ => 0
  | k + 1 => up (2 * k + 1) (IntKind.wrap .i8 (subI .i64 (quoI .i64 (g k) 16) 8)) (up (2 * k) (IntKind.wrap .i8 (subI .i64 (remI (g k) 16) 8)) (ddF g k))
theorem dd_at {g : Nat → Int} (hg : By 32 g) : ∀ k, k ≤ 32 → ∀ j, j < 2 * k → ddF g k j = nibF g j - 8
  | 0, _, j, hj => by omega
  | k + 1, hk, j, hj => by
    obtain ⟨h0, h1⟩ := hg k (by omega)
    have q : quoI .i64 (g k) 16 = g k / 16 := by unfold quoI; rw [Int.tdiv_eq_ediv_of_nonneg h0, wrap_i64 _ (by omega)]
    have r : remI (g k) 16 = g k % 16 := by unfold remI; rw [Int.tmod_eq_emod_of_nonneg h0]
    have e1 : IntKind.wrap .i8 (subI .i64 (quoI .i64 (g k) 16) 8) = g k / 16 - 8 := by rw [q, sub64 (by omega) (by omega), IntWalk.i8_in _ (by omega)]
    have e2 : IntKind.wrap .i8 (subI .i64 (remI (g k) 16) 8) = g k % 16 - 8 := by rw [r, sub64 (by omega) (by omega), IntWalk.i8_in _ (by omega)]
    rw [ddF, e1, e2, up_at]
    split
    · rename_i h
      subst h
      rw [nib_v, show (2 * k + 1) / 2 = k by omega, show (2 * k + 1) % 2 = 1 by omega]
      omega
    · rw [up_at]
      split
      · rename_i h
        subst h
        rw [nib_v, show (2 * k) / 2 = k by omega, show (2 * k) % 2 = 0 by omega]
        omega
      · exact dd_at hg k (by omega) j (by omega)
theorem dv_8 : dv 16 64 (fun _ => 8) = dv 256 32 (fun _ => 136) := by decide +kernel
theorem dv_136 : dv 256 32 (fun _ => 136) = 0x8888888888888888888888888888888888888888888888888888888888888888 := by decide +kernel
theorem doc_dig {a g : Nat → Int} (ha : By 32 a) (hc : canO a = true) (hg : By 33 g) (hv : dv 256 33 g = dv 256 32 a + dv 256 32 (fun _ => 136)) : ∀ j, j < 64 → ddF g 32 j = dgF a 64 j := by
  obtain ⟨s1, s2⟩ := dig_sum ha hc
  have hl := hc
  rw [can_iff] at hl
  have hl := of_decide_eq_true hl
  have hg2 : By 32 g := fun j hj => hg j (by omega)
  have hb := dv_bound (B := 256) (by omega) (n := 32) (a := g) hg2
  have hp : pw 256 32 = 115792089237316195423570985008687907853269984665640564039457584007913129639936 := by decide +kernel
  have hn := (num_nn a).1
  have h32 := hg 32 (by omega)
  rw [← num_bytes ha, dv_top] at hv
  have hz : g 32 = 0 := by
    rw [dv_136, hp] at hv
    rw [hp] at hb
    unfold LL at hl
    omega
  rw [hz, Int.mul_zero, Int.add_zero, dv16 32 g hg2, ← s1, ← dv_8, ← dv_add] at hv
  have hi := dv_inj (B := 16) (by omega) (fun i _ => nib_lt g i) (fun i hi => by have := s2 i hi; omega) hv
  intro j hj
  have := hi j hj
  rw [dd_at hg2 32 (Nat.le_refl _) j (by omega)]
  omega
noncomputable def o20 : Orc := ext 20 g20 o41
theorem o20_ok : OrcOK Tryd.prog o20 := ext_ok o41_ok g20_ok
def GI : GOrc := exG36 (exG37 noG)
theorem GI_ok : GOrcOK Tryd.prog GI := G36_ok (G37_ok (noG_ok _))
theorem dgt_h (a : Nat → Int) (N : Nat) (R : V) : awq Tryd.prog o20 GI 0 N (body Tryd.f14) (ends Tryd.prog Tryd.f14 fun v _ => okV R v) ⟨[(V.ints .u8 32 a)] ++ List.replicate 49 V.un, []⟩ = (gB (byO 32 a) (mB (!(canO a)) (okV R (V.tup [(V.ints .i8 64 (fun _ => 0)), (V.bool false)])) ((lpW 0 (awp Tryd.prog o20 GI N (loopOf (body Tryd.f14)))) (spineW Tryd.prog o20 GI 0 N (body Tryd.f14) (ends Tryd.prog Tryd.f14 fun v _ => okV R v)) N ⟨[(V.ints .u8 32 a), (V.ptr 0 0), (V.ptr 1 0), (V.bool false), (V.ptr 2 0), V.snil, (V.int .i64 0), V.un, V.un, (V.ints .u8 32 a), (V.bool (canO a)), (V.bool (!(canO a))), V.un, V.un, V.un, V.un, V.un, V.un, V.un, V.un, V.un, V.un, V.un, V.un, V.un, V.un, V.un, V.un, V.un, V.un, V.un, V.un, V.un, V.un, V.un, V.un, V.un, V.un, V.un, V.un, V.un, V.un, V.un, V.un, V.un, V.un, V.un, V.un, V.un, V.un], [(V.ints .u8 32 a), (V.ints .i8 64 (fun _ => 0)), (V.ints .i8 64 (fun _ => 0))]⟩))) := by kernel_rfl
theorem dgt_as (a : Nat → Int) (i : Int) (t13 t14 t15 t16 t17 t18 t19 : V) (Q : Exit → St → Prop) (m : Nat) : (lpW 0 (awp Tryd.prog o20 GI 300 (loopOf (body Tryd.f14)))) Q (m + 1) ⟨[(V.ints .u8 32 a), (V.ptr 0 0), (V.ptr 1 0), (V.bool false), (V.ptr 2 0), V.snil, (V.int .i64 i), V.un, V.un, (V.ints .u8 32 a), (V.bool (canO a)), (V.bool (!(canO a))), V.un, t13, t14, t15, t16, t17, t18, t19, V.un, V.un, V.un, V.un, V.un, V.un, V.un, V.un, V.un, V.un, V.un, V.un, V.un, V.un, V.un, V.un, V.un, V.un, V.un, V.un, V.un, V.un, V.un, V.un, V.un, V.un, V.un, V.un, V.un, V.un], [(V.ints .u8 32 a), (V.ints .i8 64 (fun _ => 0)), (V.ints .i8 64 (fun _ => 0))]⟩ = (mB (decide (i < 32)) (∀ (c1 : Nat), (1 ≤ c1) → (∀ μ : Mu, ∃ s2, Gc 0 μ ⟨[(V.ints .u8 32 a), (V.ptr 0 0), (V.ptr 1 0), (V.bool false), (V.ptr 2 0), (V.sl 4 0 1 c1), (V.int .i64 (addI .i64 i 1)), V.un, V.un, (V.ints .u8 32 a), (V.bool (canO a)), (V.bool (!(canO a))), V.un, (V.int .i64 i), (V.bool (decide (i < 32))), (V.int .i64 i), (V.int .i64 (addI .i64 i 1)), V.snil, (V.sl 3 0 1 1), (V.sl 4 0 1 c1), V.un, V.un, V.un, V.un, V.un, V.un, V.un, V.un, V.un, V.un, V.un, V.un, V.un, V.un, V.un, V.un, V.un, V.un, V.un, V.un, V.un, V.un, V.un, V.un, V.un, V.un, V.un, V.un, V.un, V.un], [(V.ints .u8 32 a), (V.ints .i8 64 (fun _ => 0)), (V.ints .i8 64 (fun _ => 0)), (V.ints .i64 1 (up 0 136 (fun _ => 0))), (V.ints .i64 c1 (ap 0 1 (fun _ => 0) (up 0 136 (fun _ => 0)) 0))]⟩ s2 ∧ (lpW 0 (awp Tryd.prog o20 GI 300 (loopOf (body Tryd.f14)))) Q m s2)) (Q (.exit 0) ⟨[(V.ints .u8 32 a), (V.ptr 0 0), (V.ptr 1 0), (V.bool false), (V.ptr 2 0), V.snil, (V.int .i64 i), V.un, V.un, (V.ints .u8 32 a), (V.bool (canO a)), (V.bool (!(canO a))), V.un, (V.int .i64 i), (V.bool (decide (i < 32))), t15, t16, t17, t18, t19, V.un, V.un, V.un, V.un, V.un, V.un, V.un, V.un, V.un, V.un, V.un, V.un, V.un, V.un, V.un, V.un, V.un, V.un, V.un, V.un, V.un, V.un, V.un, V.un, V.un, V.un, V.un, V.un, V.un, V.un], [(V.ints .u8 32 a), (V.ints .i8 64 (fun _ => 0)), (V.ints .i8 64 (fun _ => 0))]⟩)) := by kernel_rfl
theorem dgt_a (a : Nat → Int) (i : Int) (t13 t14 t15 t16 t17 t18 t19 : V) (Q : Exit → St → Prop) (m : Nat) (h : (mB (decide (i < 32)) (∀ (c1 : Nat), (1 ≤ c1) → (∀ (u13 u14 u15 u16 u17 u18 u19 : V), (lpW 0 (awp Tryd.prog o20 GI 300 (loopOf (body Tryd.f14)))) Q m ⟨[(V.ints .u8 32 a), (V.ptr 0 0), (V.ptr 1 0), (V.bool false), (V.ptr 2 0), (V.sl 3 0 1 c1), (V.int .i64 (addI .i64 i 1)), V.un, V.un, (V.ints .u8 32 a), (V.bool (canO a)), (V.bool (!(canO a))), V.un, u13, u14, u15, u16, u17, u18, u19, V.un, V.un, V.un, V.un, V.un, V.un, V.un, V.un, V.un, V.un, V.un, V.un, V.un, V.un, V.un, V.un, V.un, V.un, V.un, V.un, V.un, V.un, V.un, V.un, V.un, V.un, V.un, V.un, V.un, V.un], [(V.ints .u8 32 a), (V.ints .i8 64 (fun _ => 0)), (V.ints .i8 64 (fun _ => 0)), (V.ints .i64 c1 (ap 0 1 (fun _ => 0) (up 0 136 (fun _ => 0)) 0))]⟩)) (Q (.exit 0) ⟨[(V.ints .u8 32 a), (V.ptr 0 0), (V.ptr 1 0), (V.bool false), (V.ptr 2 0), V.snil, (V.int .i64 i), V.un, V.un, (V.ints .u8 32 a), (V.bool (canO a)), (V.bool (!(canO a))), V.un, (V.int .i64 i), (V.bool (decide (i < 32))), t15, t16, t17, t18, t19, V.un, V.un, V.un, V.un, V.un, V.un, V.un, V.un, V.un, V.un, V.un, V.un, V.un, V.un, V.un, V.un, V.un, V.un, V.un, V.un, V.un, V.un, V.un, V.un, V.un, V.un, V.un, V.un, V.un, V.un], [(V.ints .u8 32 a), (V.ints .i8 64 (fun _ => 0)), (V.ints .i8 64 (fun _ => 0))]⟩))) : (lpW 0 (awp Tryd.prog o20 GI 300 (loopOf (body Tryd.f14)))) Q (m + 1) ⟨[(V.ints .u8 32 a), (V.ptr 0 0), (V.ptr 1 0), (V.bool false), (V.ptr 2 0), V.snil, (V.int .i64 i), V.un, V.un, (V.ints .u8 32 a), (V.bool (canO a)), (V.bool (!(canO a))), V.un, t13, t14, t15, t16, t17, t18, t19, V.un, V.un, V.un, V.un, V.un, V.un, V.un, V.un, V.un, V.un, V.un, V.un, V.un, V.un, V.un, V.un, V.un, V.un, V.un, V.un, V.un, V.un, V.un, V.un, V.un, V.un, V.un, V.un, V.un, V.un], [(V.ints .u8 32 a), (V.ints .i8 64 (fun _ => 0)), (V.ints .i8 64 (fun _ => 0))]⟩ := by
  rw [dgt_as]
  exact (mB_imp (fun h0 => (fun c1 q1 => (fun μ => ⟨_, gc_of [0, 1, 2, 4] (m2 := [(V.ints .u8 32 a), (V.ints .i8 64 (fun _ => 0)), (V.ints .i8 64 (fun _ => 0)), (V.ints .i64 c1 (ap 0 1 (fun _ => 0) (up 0 136 (fun _ => 0)) 0))]) (by kernel_rfl) (by kernel_rfl) (by kernel_rfl), cast_lp (show (St.mk _ _) = ⟨[(V.ints .u8 32 a), (V.ptr 0 0), (V.ptr 1 0), (V.bool false), (V.ptr 2 0), (V.sl 3 0 1 c1), (V.int .i64 (addI .i64 i 1)), V.un, V.un, (V.ints .u8 32 a), (V.bool (canO a)), (V.bool (!(canO a))), V.un, (V.int .i64 i), (V.bool (decide (i < 32))), (V.int .i64 i), (V.int .i64 (addI .i64 i 1)), V.snil, (V.any (V.den μ (V.sl 3 0 1 1))), (V.sl 3 0 1 c1), V.un, V.un, V.un, V.un, V.un, V.un, V.un, V.un, V.un, V.un, V.un, V.un, V.un, V.un, V.un, V.un, V.un, V.un, V.un, V.un, V.un, V.un, V.un, V.un, V.un, V.un, V.un, V.un, V.un, V.un], [(V.ints .u8 32 a), (V.ints .i8 64 (fun _ => 0)), (V.ints .i8 64 (fun _ => 0)), (V.ints .i64 c1 (ap 0 1 (fun _ => 0) (up 0 136 (fun _ => 0)) 0))]⟩ by kernel_rfl) ((h0 c1 q1) (V.int .i64 i) (V.bool (decide (i < 32))) (V.int .i64 i) (V.int .i64 (addI .i64 i 1)) V.snil (V.any (V.den μ (V.sl 3 0 1 1))) (V.sl 3 0 1 c1))⟩))) (fun h0 => h0) h)
theorem dgt_bs (a : Nat → Int) (i : Int) (k c : Nat) (hh : Nat → Int) (t13 t14 t15 t16 t17 t18 t19 : V) (Q : Exit → St → Prop) (m : Nat) : (lpW 0 (awp Tryd.prog o20 GI 300 (loopOf (body Tryd.f14)))) Q (m + 1) ⟨[(V.ints .u8 32 a), (V.ptr 0 0), (V.ptr 1 0), (V.bool false), (V.ptr 2 0), (V.sl 3 0 k c), (V.int .i64 i), V.un, V.un, (V.ints .u8 32 a), (V.bool (canO a)), (V.bool (!(canO a))), V.un, t13, t14, t15, t16, t17, t18, t19, V.un, V.un, V.un, V.un, V.un, V.un, V.un, V.un, V.un, V.un, V.un, V.un, V.un, V.un, V.un, V.un, V.un, V.un, V.un, V.un, V.un, V.un, V.un, V.un, V.un, V.un, V.un, V.un, V.un, V.un], [(V.ints .u8 32 a), (V.ints .i8 64 (fun _ => 0)), (V.ints .i8 64 (fun _ => 0)), (V.ints .i64 c hh)]⟩ = (mB (decide (i < 32)) (mB (Nat.ble (k + 1) c) (gB (Nat.ble (0 + k + 1) c) (∀ μ : Mu, ∃ s2, Gc 0 μ ⟨[(V.ints .u8 32 a), (V.ptr 0 0), (V.ptr 1 0), (V.bool false), (V.ptr 2 0), (V.sl 3 0 (k + 1) c), (V.int .i64 (addI .i64 i 1)), V.un, V.un, (V.ints .u8 32 a), (V.bool (canO a)), (V.bool (!(canO a))), V.un, (V.int .i64 i), (V.bool (decide (i < 32))), (V.int .i64 i), (V.int .i64 (addI .i64 i 1)), (V.sl 3 0 k c), (V.sl 4 0 1 1), (V.sl 3 0 (k + 1) c), V.un, V.un, V.un, V.un, V.un, V.un, V.un, V.un, V.un, V.un, V.un, V.un, V.un, V.un, V.un, V.un, V.un, V.un, V.un, V.un, V.un, V.un, V.un, V.un, V.un, V.un, V.un, V.un, V.un, V.un], [(V.ints .u8 32 a), (V.ints .i8 64 (fun _ => 0)), (V.ints .i8 64 (fun _ => 0)), (V.ints .i64 c (spl (0 + k) 1 c (up 0 136 (fun _ => 0)) hh)), (V.ints .i64 1 (up 0 136 (fun _ => 0)))]⟩ s2 ∧ (lpW 0 (awp Tryd.prog o20 GI 300 (loopOf (body Tryd.f14)))) Q m s2)) (gB (Nat.ble (0 + k) c && Nat.ble (k + 1) 1048576) (∀ (c1 : Nat), (k + 1 ≤ c1) → (∀ μ : Mu, ∃ s2, Gc 0 μ ⟨[(V.ints .u8 32 a), (V.ptr 0 0), (V.ptr 1 0), (V.bool false), (V.ptr 2 0), (V.sl 5 0 (k + 1) c1), (V.int .i64 (addI .i64 i 1)), V.un, V.un, (V.ints .u8 32 a), (V.bool (canO a)), (V.bool (!(canO a))), V.un, (V.int .i64 i), (V.bool (decide (i < 32))), (V.int .i64 i), (V.int .i64 (addI .i64 i 1)), (V.sl 3 0 k c), (V.sl 4 0 1 1), (V.sl 5 0 (k + 1) c1), V.un, V.un, V.un, V.un, V.un, V.un, V.un, V.un, V.un, V.un, V.un, V.un, V.un, V.un, V.un, V.un, V.un, V.un, V.un, V.un, V.un, V.un, V.un, V.un, V.un, V.un, V.un, V.un, V.un, V.un], [(V.ints .u8 32 a), (V.ints .i8 64 (fun _ => 0)), (V.ints .i8 64 (fun _ => 0)), (V.ints .i64 c hh), (V.ints .i64 1 (up 0 136 (fun _ => 0))), (V.ints .i64 c1 (ap k 1 (sh 0 hh) (up 0 136 (fun _ => 0)) 0))]⟩ s2 ∧ (lpW 0 (awp Tryd.prog o20 GI 300 (loopOf (body Tryd.f14)))) Q m s2)))) (Q (.exit 0) ⟨[(V.ints .u8 32 a), (V.ptr 0 0), (V.ptr 1 0), (V.bool false), (V.ptr 2 0), (V.sl 3 0 k c), (V.int .i64 i), V.un, V.un, (V.ints .u8 32 a), (V.bool (canO a)), (V.bool (!(canO a))), V.un, (V.int .i64 i), (V.bool (decide (i < 32))), t15, t16, t17, t18, t19, V.un, V.un, V.un, V.un, V.un, V.un, V.un, V.un, V.un, V.un, V.un, V.un, V.un, V.un, V.un, V.un, V.un, V.un, V.un, V.un, V.un, V.un, V.un, V.un, V.un, V.un, V.un, V.un, V.un, V.un], [(V.ints .u8 32 a), (V.ints .i8 64 (fun _ => 0)), (V.ints .i8 64 (fun _ => 0)), (V.ints .i64 c hh)]⟩)) := by kernel_rfl
theorem dgt_b (a : Nat → Int) (i : Int) (k c : Nat) (hh : Nat → Int) (t13 t14 t15 t16 t17 t18 t19 : V) (Q : Exit → St → Prop) (m : Nat) (h : (mB (decide (i < 32)) (mB (Nat.ble (k + 1) c) (gB (Nat.ble (0 + k + 1) c) (∀ (u13 u14 u15 u16 u17 u18 u19 : V), (lpW 0 (awp Tryd.prog o20 GI 300 (loopOf (body Tryd.f14)))) Q m ⟨[(V.ints .u8 32 a), (V.ptr 0 0), (V.ptr 1 0), (V.bool false), (V.ptr 2 0), (V.sl 3 0 (k + 1) c), (V.int .i64 (addI .i64 i 1)), V.un, V.un, (V.ints .u8 32 a), (V.bool (canO a)), (V.bool (!(canO a))), V.un, u13, u14, u15, u16, u17, u18, u19, V.un, V.un, V.un, V.un, V.un, V.un, V.un, V.un, V.un, V.un, V.un, V.un, V.un, V.un, V.un, V.un, V.un, V.un, V.un, V.un, V.un, V.un, V.un, V.un, V.un, V.un, V.un, V.un, V.un, V.un], [(V.ints .u8 32 a), (V.ints .i8 64 (fun _ => 0)), (V.ints .i8 64 (fun _ => 0)), (V.ints .i64 c (spl (0 + k) 1 c (up 0 136 (fun _ => 0)) hh))]⟩)) (gB (Nat.ble (0 + k) c && Nat.ble (k + 1) 1048576) (∀ (c1 : Nat), (k + 1 ≤ c1) → (∀ (u13 u14 u15 u16 u17 u18 u19 : V), (lpW 0 (awp Tryd.prog o20 GI 300 (loopOf (body Tryd.f14)))) Q m ⟨[(V.ints .u8 32 a), (V.ptr 0 0), (V.ptr 1 0), (V.bool false), (V.ptr 2 0), (V.sl 3 0 (k + 1) c1), (V.int .i64 (addI .i64 i 1)), V.un, V.un, (V.ints .u8 32 a), (V.bool (canO a)), (V.bool (!(canO a))), V.un, u13, u14, u15, u16, u17, u18, u19, V.un, V.un, V.un, V.un, V.un, V.un, V.un, V.un, V.un, V.un, V.un, V.un, V.un, V.un, V.un, V.un, V.un, V.un, V.un, V.un, V.un, V.un, V.un, V.un, V.un, V.un, V.un, V.un, V.un, V.un], [(V.ints .u8 32 a), (V.ints .i8 64 (fun _ => 0)), (V.ints .i8 64 (fun _ => 0)), (V.ints .i64 c1 (ap k 1 (sh 0 hh) (up 0 136 (fun _ => 0)) 0))]⟩)))) (Q (.exit 0) ⟨[(V.ints .u8 32 a), (V.ptr 0 0), (V.ptr 1 0), (V.bool false), (V.ptr 2 0), (V.sl 3 0 k c), (V.int .i64 i), V.un, V.un, (V.ints .u8 32 a), (V.bool (canO a)), (V.bool (!(canO a))), V.un, (V.int .i64 i), (V.bool (decide (i < 32))), t15, t16, t17, t18, t19, V.un, V.un, V.un, V.un, V.un, V.un, V.un, V.un, V.un, V.un, V.un, V.un, V.un, V.un, V.un, V.un, V.un, V.un, V.un, V.un, V.un, V.un, V.un, V.un, V.un, V.un, V.un, V.un, V.un, V.un], [(V.ints .u8 32 a), (V.ints .i8 64 (fun _ => 0)), (V.ints .i8 64 (fun _ => 0)), (V.ints .i64 c hh)]⟩))) : (lpW 0 (awp Tryd.prog o20 GI 300 (loopOf (body Tryd.f14)))) Q (m + 1) ⟨[(V.ints .u8 32 a), (V.ptr 0 0), (V.ptr 1 0), (V.bool false), (V.ptr 2 0), (V.sl 3 0 k c), (V.int .i64 i), V.un, V.un, (V.ints .u8 32 a), (V.bool (canO a)), (V.bool (!(canO a))), V.un, t13, t14, t15, t16, t17, t18, t19, V.un, V.un, V.un, V.un, V.un, V.un, V.un, V.un, V.un, V.un, V.un, V.un, V.un, V.un, V.un, V.un, V.un, V.un, V.un, V.un, V.un, V.un, V.un, V.un, V.un, V.un, V.un, V.un, V.un, V.un], [(V.ints .u8 32 a), (V.ints .i8 64 (fun _ => 0)), (V.ints .i8 64 (fun _ => 0)), (V.ints .i64 c hh)]⟩ := by
  rw [dgt_bs]
  exact (mB_imp (fun h0 => (mB_imp (fun h1 => (gB_imp (fun h2 => (fun μ => ⟨_, gc_of [0, 1, 2, 3] (m2 := [(V.ints .u8 32 a), (V.ints .i8 64 (fun _ => 0)), (V.ints .i8 64 (fun _ => 0)), (V.ints .i64 c (spl (0 + k) 1 c (up 0 136 (fun _ => 0)) hh))]) (by kernel_rfl) (by kernel_rfl) (by kernel_rfl), cast_lp (show (St.mk _ _) = ⟨[(V.ints .u8 32 a), (V.ptr 0 0), (V.ptr 1 0), (V.bool false), (V.ptr 2 0), (V.sl 3 0 (k + 1) c), (V.int .i64 (addI .i64 i 1)), V.un, V.un, (V.ints .u8 32 a), (V.bool (canO a)), (V.bool (!(canO a))), V.un, (V.int .i64 i), (V.bool (decide (i < 32))), (V.int .i64 i), (V.int .i64 (addI .i64 i 1)), (V.sl 3 0 k c), (V.any (V.den μ (V.sl 4 0 1 1))), (V.sl 3 0 (k + 1) c), V.un, V.un, V.un, V.un, V.un, V.un, V.un, V.un, V.un, V.un, V.un, V.un, V.un, V.un, V.un, V.un, V.un, V.un, V.un, V.un, V.un, V.un, V.un, V.un, V.un, V.un, V.un, V.un, V.un, V.un], [(V.ints .u8 32 a), (V.ints .i8 64 (fun _ => 0)), (V.ints .i8 64 (fun _ => 0)), (V.ints .i64 c (spl (0 + k) 1 c (up 0 136 (fun _ => 0)) hh))]⟩ by kernel_rfl) (h2 (V.int .i64 i) (V.bool (decide (i < 32))) (V.int .i64 i) (V.int .i64 (addI .i64 i 1)) (V.sl 3 0 k c) (V.any (V.den μ (V.sl 4 0 1 1))) (V.sl 3 0 (k + 1) c))⟩)) h1)) (fun h1 => (gB_imp (fun h2 => (fun c1 q3 => (fun μ => ⟨_, gc_of [0, 1, 2, 5] (m2 := [(V.ints .u8 32 a), (V.ints .i8 64 (fun _ => 0)), (V.ints .i8 64 (fun _ => 0)), (V.ints .i64 c1 (ap k 1 (sh 0 hh) (up 0 136 (fun _ => 0)) 0))]) (by kernel_rfl) (by kernel_rfl) (by kernel_rfl), cast_lp (show (St.mk _ _) = ⟨[(V.ints .u8 32 a), (V.ptr 0 0), (V.ptr 1 0), (V.bool false), (V.ptr 2 0), (V.sl 3 0 (k + 1) c1), (V.int .i64 (addI .i64 i 1)), V.un, V.un, (V.ints .u8 32 a), (V.bool (canO a)), (V.bool (!(canO a))), V.un, (V.int .i64 i), (V.bool (decide (i < 32))), (V.int .i64 i), (V.int .i64 (addI .i64 i 1)), (V.any (V.den μ (V.sl 3 0 k c))), (V.any (V.den μ (V.sl 4 0 1 1))), (V.sl 3 0 (k + 1) c1), V.un, V.un, V.un, V.un, V.un, V.un, V.un, V.un, V.un, V.un, V.un, V.un, V.un, V.un, V.un, V.un, V.un, V.un, V.un, V.un, V.un, V.un, V.un, V.un, V.un, V.un, V.un, V.un, V.un, V.un], [(V.ints .u8 32 a), (V.ints .i8 64 (fun _ => 0)), (V.ints .i8 64 (fun _ => 0)), (V.ints .i64 c1 (ap k 1 (sh 0 hh) (up 0 136 (fun _ => 0)) 0))]⟩ by kernel_rfl) ((h2 c1 q3) (V.int .i64 i) (V.bool (decide (i < 32))) (V.int .i64 i) (V.int .i64 (addI .i64 i 1)) (V.any (V.den μ (V.sl 3 0 k c))) (V.any (V.den μ (V.sl 4 0 1 1))) (V.sl 3 0 (k + 1) c1))⟩))) h1)) h0)) (fun h0 => h0) h)
theorem dgt_ex (a : Nat → Int) (i : Int) (c : Nat) (hh : Nat → Int) (t13 t14 t15 t16 t17 t18 t19 : V) (R : V) : (spineW Tryd.prog o20 GI 0 300 (body Tryd.f14) (ends Tryd.prog Tryd.f14 fun v _ => okV R v)) (.exit 0) ⟨[(V.ints .u8 32 a), (V.ptr 0 0), (V.ptr 1 0), (V.bool false), (V.ptr 2 0), (V.sl 3 0 32 c), (V.int .i64 i), V.un, V.un, (V.ints .u8 32 a), (V.bool (canO a)), (V.bool (!(canO a))), V.un, t13, t14, t15, t16, t17, t18, t19, V.un, V.un, V.un, V.un, V.un, V.un, V.un, V.un, V.un, V.un, V.un, V.un, V.un, V.un, V.un, V.un, V.un, V.un, V.un, V.un, V.un, V.un, V.un, V.un, V.un, V.un, V.un, V.un, V.un, V.un], [(V.ints .u8 32 a), (V.ints .i8 64 (fun _ => 0)), (V.ints .i8 64 (fun _ => 0)), (V.ints .i64 c hh)]⟩ = (∀ (e1 : Nat) (ff2 : Nat → Int), (gB (Nat.ble 32 c && true) (∀ (e3 : Nat) (ff4 : Nat → Int), ((lpW 0 (awp Tryd.prog o20 GI 300 (loopOf (dropLoop (body Tryd.f14))))) (spineW Tryd.prog o20 GI 0 300 (dropLoop (body Tryd.f14)) (ends Tryd.prog Tryd.f14 fun v _ => okV R v)) 300 ⟨[(V.ints .u8 32 a), (V.ptr 0 0), (V.ptr 1 0), (V.bool false), (V.ptr 2 0), (V.sl 3 0 32 c), (V.int .i64 i), (V.sl 5 0 33 (e3 + 33)), (V.int .i64 0), (V.ints .u8 32 a), (V.bool (canO a)), (V.bool (!(canO a))), V.un, t13, t14, t15, t16, t17, t18, t19, (V.sl 0 0 32 32), (V.sl 4 0 32 (e1 + 32)), (V.sl 3 0 32 c), (V.sl 5 0 33 (e3 + 33)), V.un, V.un, V.un, V.un, V.un, V.un, V.un, V.un, V.un, V.un, V.un, V.un, V.un, V.un, V.un, V.un, V.un, V.un, V.un, V.un, V.un, V.un, V.un, V.un, V.un, V.un], [(V.ints .u8 32 a), (V.ints .i8 64 (fun _ => 0)), (V.ints .i8 64 (fun _ => 0)), (V.ints .i64 c hh), (V.ints .i64 (e1 + 32) (apx 32 (fun j => IntKind.wrap .i64 (a j)) ff2)), (V.ints .i64 (e3 + 33) (apx 33 (sumV 32 (apx 32 (fun j => IntKind.wrap .i64 (a j)) ff2) 32 hh) ff4))]⟩)))) := by kernel_rfl
theorem dgt2_cs (a : Nat → Int) (i0 i : Int) (c e1 e3 : Nat) (hh f1 f2 w : Nat → Int) (t13 t14 t15 t16 t17 t18 t19 t24 t25 t26 t27 t28 t29 t30 t31 t32 t33 t34 t35 t36 t37 t38 t39 t40 t41 t42 t43 t44 t45 t46 t47 t48 : V) (Q : Exit → St → Prop) (m : Nat) : (lpW 0 (awp Tryd.prog o20 GI 300 (loopOf (dropLoop (body Tryd.f14))))) Q (m + 1) ⟨[(V.ints .u8 32 a), (V.ptr 0 0), (V.ptr 1 0), (V.bool false), (V.ptr 2 0), (V.sl 3 0 32 c), (V.int .i64 i0), (V.sl 5 0 33 (e3 + 33)), (V.int .i64 i), (V.ints .u8 32 a), (V.bool (canO a)), (V.bool (!(canO a))), V.un, t13, t14, t15, t16, t17, t18, t19, (V.sl 0 0 32 32), (V.sl 4 0 32 (e1 + 32)), (V.sl 3 0 32 c), (V.sl 5 0 33 (e3 + 33)), t24, t25, t26, t27, t28, t29, t30, t31, t32, t33, t34, t35, t36, t37, t38, t39, t40, t41, t42, t43, t44, t45, t46, t47, t48, V.un], [(V.ints .u8 32 a), (V.ints .i8 64 (fun _ => 0)), (V.ints .i8 64 w), (V.ints .i64 c hh), (V.ints .i64 (e1 + 32) f1), (V.ints .i64 (e3 + 33) f2)]⟩ = (mB (decide (i < 32)) (gB (decide (0 ≤ i ∧ i < 33)) (gB (Nat.blt (0 + (Int.toNat i * 1)) (e3 + 33)) (gB (decide (0 ≤ (mulI .i64 2 i) ∧ (mulI .i64 2 i) < 64)) (gB (Nat.blt (0 + (Int.toNat (mulI .i64 2 i) * 1)) 64) (gB (decide (0 ≤ i ∧ i < 33)) (gB (Nat.blt (0 + (Int.toNat i * 1)) (e3 + 33)) (gB (decide (0 ≤ (addI .i64 (mulI .i64 2 i) 1) ∧ (addI .i64 (mulI .i64 2 i) 1) < 64)) (gB (Nat.blt (0 + (Int.toNat (addI .i64 (mulI .i64 2 i) 1) * 1)) 64) (∀ μ : Mu, ∃ s2, Gc 0 μ ⟨[(V.ints .u8 32 a), (V.ptr 0 0), (V.ptr 1 0), (V.bool false), (V.ptr 2 0), (V.sl 3 0 32 c), (V.int .i64 i0), (V.sl 5 0 33 (e3 + 33)), (V.int .i64 (addI .i64 i 1)), (V.ints .u8 32 a), (V.bool (canO a)), (V.bool (!(canO a))), V.un, t13, t14, t15, t16, t17, t18, t19, (V.sl 0 0 32 32), (V.sl 4 0 32 (e1 + 32)), (V.sl 3 0 32 c), (V.sl 5 0 33 (e3 + 33)), (V.int .i64 i), (V.bool (decide (i < 32))), (V.int .i64 i), (V.int .i64 (addI .i64 i 1)), (V.int .i64 i), (V.int .i64 (mulI .i64 2 i)), (V.sl 5 0 33 (e3 + 33)), (V.int .i64 i), (V.ptr 5 (0 + (Int.toNat i * 1))), (V.int .i64 (f2 (0 + (Int.toNat i * 1)))), (V.int .i64 (remI (f2 (0 + (Int.toNat i * 1))) 16)), (V.int .i64 (subI .i64 (remI (f2 (0 + (Int.toNat i * 1))) 16) 8)), (V.int .i8 (IntKind.wrap .i8 (subI .i64 (remI (f2 (0 + (Int.toNat i * 1))) 16) 8))), (V.ptr 2 (0 + (Int.toNat (mulI .i64 2 i) * 1))), (V.int .i64 i), (V.int .i64 (mulI .i64 2 i)), (V.int .i64 (addI .i64 (mulI .i64 2 i) 1)), (V.sl 5 0 33 (e3 + 33)), (V.int .i64 i), (V.ptr 5 (0 + (Int.toNat i * 1))), (V.int .i64 (f2 (0 + (Int.toNat i * 1)))), (V.int .i64 (quoI .i64 (f2 (0 + (Int.toNat i * 1))) 16)), (V.int .i64 (subI .i64 (quoI .i64 (f2 (0 + (Int.toNat i * 1))) 16) 8)), (V.int .i8 (IntKind.wrap .i8 (subI .i64 (quoI .i64 (f2 (0 + (Int.toNat i * 1))) 16) 8))), (V.ptr 2 (0 + (Int.toNat (addI .i64 (mulI .i64 2 i) 1) * 1))), V.un], [(V.ints .u8 32 a), (V.ints .i8 64 (fun _ => 0)), (V.ints .i8 64 (up (0 + (Int.toNat (addI .i64 (mulI .i64 2 i) 1) * 1)) (IntKind.wrap .i8 (subI .i64 (quoI .i64 (f2 (0 + (Int.toNat i * 1))) 16) 8)) (up (0 + (Int.toNat (mulI .i64 2 i) * 1)) (IntKind.wrap .i8 (subI .i64 (remI (f2 (0 + (Int.toNat i * 1))) 16) 8)) w))), (V.ints .i64 c hh), (V.ints .i64 (e1 + 32) f1), (V.ints .i64 (e3 + 33) f2)]⟩ s2 ∧ (lpW 0 (awp Tryd.prog o20 GI 300 (loopOf (dropLoop (body Tryd.f14))))) Q m s2))))))))) (Q (.exit 2) ⟨[(V.ints .u8 32 a), (V.ptr 0 0), (V.ptr 1 0), (V.bool false), (V.ptr 2 0), (V.sl 3 0 32 c), (V.int .i64 i0), (V.sl 5 0 33 (e3 + 33)), (V.int .i64 i), (V.ints .u8 32 a), (V.bool (canO a)), (V.bool (!(canO a))), V.un, t13, t14, t15, t16, t17, t18, t19, (V.sl 0 0 32 32), (V.sl 4 0 32 (e1 + 32)), (V.sl 3 0 32 c), (V.sl 5 0 33 (e3 + 33)), (V.int .i64 i), (V.bool (decide (i < 32))), t26, t27, t28, t29, t30, t31, t32, t33, t34, t35, t36, t37, t38, t39, t40, t41, t42, t43, t44, t45, t46, t47, t48, V.un], [(V.ints .u8 32 a), (V.ints .i8 64 (fun _ => 0)), (V.ints .i8 64 w), (V.ints .i64 c hh), (V.ints .i64 (e1 + 32) f1), (V.ints .i64 (e3 + 33) f2)]⟩)) := by kernel_rfl
theorem dgt2_c (a : Nat → Int) (i0 i : Int) (c e1 e3 : Nat) (hh f1 f2 w : Nat → Int) (t13 t14 t15 t16 t17 t18 t19 t24 t25 t26 t27 t28 t29 t30 t31 t32 t33 t34 t35 t36 t37 t38 t39 t40 t41 t42 t43 t44 t45 t46 t47 t48 : V) (Q : Exit → St → Prop) (m : Nat) (h : (mB (decide (i < 32)) (gB (decide (0 ≤ i ∧ i < 33)) (gB (Nat.blt (0 + (Int.toNat i * 1)) (e3 + 33)) (gB (decide (0 ≤ (mulI .i64 2 i) ∧ (mulI .i64 2 i) < 64)) (gB (Nat.blt (0 + (Int.toNat (mulI .i64 2 i) * 1)) 64) (gB (decide (0 ≤ i ∧ i < 33)) (gB (Nat.blt (0 + (Int.toNat i * 1)) (e3 + 33)) (gB (decide (0 ≤ (addI .i64 (mulI .i64 2 i) 1) ∧ (addI .i64 (mulI .i64 2 i) 1) < 64)) (gB (Nat.blt (0 + (Int.toNat (addI .i64 (mulI .i64 2 i) 1) * 1)) 64) (∀ (u13 u14 u15 u16 u17 u18 u19 u24 u25 u26 u27 u28 u29 u30 u31 u32 u33 u34 u35 u36 u37 u38 u39 u40 u41 u42 u43 u44 u45 u46 u47 u48 : V), (lpW 0 (awp Tryd.prog o20 GI 300 (loopOf (dropLoop (body Tryd.f14))))) Q m ⟨[(V.ints .u8 32 a), (V.ptr 0 0), (V.ptr 1 0), (V.bool false), (V.ptr 2 0), (V.sl 3 0 32 c), (V.int .i64 i0), (V.sl 5 0 33 (e3 + 33)), (V.int .i64 (addI .i64 i 1)), (V.ints .u8 32 a), (V.bool (canO a)), (V.bool (!(canO a))), V.un, u13, u14, u15, u16, u17, u18, u19, (V.sl 0 0 32 32), (V.sl 4 0 32 (e1 + 32)), (V.sl 3 0 32 c), (V.sl 5 0 33 (e3 + 33)), u24, u25, u26, u27, u28, u29, u30, u31, u32, u33, u34, u35, u36, u37, u38, u39, u40, u41, u42, u43, u44, u45, u46, u47, u48, V.un], [(V.ints .u8 32 a), (V.ints .i8 64 (fun _ => 0)), (V.ints .i8 64 (up (0 + (Int.toNat (addI .i64 (mulI .i64 2 i) 1) * 1)) (IntKind.wrap .i8 (subI .i64 (quoI .i64 (f2 (0 + (Int.toNat i * 1))) 16) 8)) (up (0 + (Int.toNat (mulI .i64 2 i) * 1)) (IntKind.wrap .i8 (subI .i64 (remI (f2 (0 + (Int.toNat i * 1))) 16) 8)) w))), (V.ints .i64 c hh), (V.ints .i64 (e1 + 32) f1), (V.ints .i64 (e3 + 33) f2)]⟩))))))))) (Q (.exit 2) ⟨[(V.ints .u8 32 a), (V.ptr 0 0), (V.ptr 1 0), (V.bool false), (V.ptr 2 0), (V.sl 3 0 32 c), (V.int .i64 i0), (V.sl 5 0 33 (e3 + 33)), (V.int .i64 i), (V.ints .u8 32 a), (V.bool (canO a)), (V.bool (!(canO a))), V.un, t13, t14, t15, t16, t17, t18, t19, (V.sl 0 0 32 32), (V.sl 4 0 32 (e1 + 32)), (V.sl 3 0 32 c), (V.sl 5 0 33 (e3 + 33)), (V.int .i64 i), (V.bool (decide (i < 32))), t26, t27, t28, t29, t30, t31, t32, t33, t34, t35, t36, t37, t38, t39, t40, t41, t42, t43, t44, t45, t46, t47, t48, V.un], [(V.ints .u8 32 a), (V.ints .i8 64 (fun _ => 0)), (V.ints .i8 64 w), (V.ints .i64 c hh), (V.ints .i64 (e1 + 32) f1), (V.ints .i64 (e3 + 33) f2)]⟩))) : (lpW 0 (awp Tryd.prog o20 GI 300 (loopOf (dropLoop (body Tryd.f14))))) Q (m + 1) ⟨[(V.ints .u8 32 a), (V.ptr 0 0), (V.ptr 1 0), (V.bool false), (V.ptr 2 0), (V.sl 3 0 32 c), (V.int .i64 i0), (V.sl 5 0 33 (e3 + 33)), (V.int .i64 i), (V.ints .u8 32 a), (V.bool (canO a)), (V.bool (!(canO a))), V.un, t13, t14, t15, t16, t17, t18, t19, (V.sl 0 0 32 32), (V.sl 4 0 32 (e1 + 32)), (V.sl 3 0 32 c), (V.sl 5 0 33 (e3 + 33)), t24, t25, t26, t27, t28, t29, t30, t31, t32, t33, t34, t35, t36, t37, t38, t39, t40, t41, t42, t43, t44, t45, t46, t47, t48, V.un], [(V.ints .u8 32 a), (V.ints .i8 64 (fun _ => 0)), (V.ints .i8 64 w), (V.ints .i64 c hh), (V.ints .i64 (e1 + 32) f1), (V.ints .i64 (e3 + 33) f2)]⟩ := by
  rw [dgt2_cs]
  exact (mB_imp (fun h0 => (gB_imp (fun h1 => (gB_imp (fun h2 => (gB_imp (fun h3 => (gB_imp (fun h4 => (gB_imp (fun h5 => (gB_imp (fun h6 => (gB_imp (fun h7 => (gB_imp (fun h8 => (fun μ => ⟨_, gc_of [0, 1, 2, 3, 4, 5] (m2 := [(V.ints .u8 32 a), (V.ints .i8 64 (fun _ => 0)), (V.ints .i8 64 (up (0 + (Int.toNat (addI .i64 (mulI .i64 2 i) 1) * 1)) (IntKind.wrap .i8 (subI .i64 (quoI .i64 (f2 (0 + (Int.toNat i * 1))) 16) 8)) (up (0 + (Int.toNat (mulI .i64 2 i) * 1)) (IntKind.wrap .i8 (subI .i64 (remI (f2 (0 + (Int.toNat i * 1))) 16) 8)) w))), (V.ints .i64 c hh), (V.ints .i64 (e1 + 32) f1), (V.ints .i64 (e3 + 33) f2)]) (by kernel_rfl) (by kernel_rfl) (by kernel_rfl), cast_lp (show (St.mk _ _) = ⟨[(V.ints .u8 32 a), (V.ptr 0 0), (V.ptr 1 0), (V.bool false), (V.ptr 2 0), (V.sl 3 0 32 c), (V.int .i64 i0), (V.sl 5 0 33 (e3 + 33)), (V.int .i64 (addI .i64 i 1)), (V.ints .u8 32 a), (V.bool (canO a)), (V.bool (!(canO a))), V.un, (V.keep [0, 1, 2, 3, 4, 5] μ t13), (V.keep [0, 1, 2, 3, 4, 5] μ t14), (V.keep [0, 1, 2, 3, 4, 5] μ t15), (V.keep [0, 1, 2, 3, 4, 5] μ t16), (V.keep [0, 1, 2, 3, 4, 5] μ t17), (V.keep [0, 1, 2, 3, 4, 5] μ t18), (V.keep [0, 1, 2, 3, 4, 5] μ t19), (V.sl 0 0 32 32), (V.sl 4 0 32 (e1 + 32)), (V.sl 3 0 32 c), (V.sl 5 0 33 (e3 + 33)), (V.int .i64 i), (V.bool (decide (i < 32))), (V.int .i64 i), (V.int .i64 (addI .i64 i 1)), (V.int .i64 i), (V.int .i64 (mulI .i64 2 i)), (V.sl 5 0 33 (e3 + 33)), (V.int .i64 i), (V.ptr 5 (0 + (Int.toNat i * 1))), (V.int .i64 (f2 (0 + (Int.toNat i * 1)))), (V.int .i64 (remI (f2 (0 + (Int.toNat i * 1))) 16)), (V.int .i64 (subI .i64 (remI (f2 (0 + (Int.toNat i * 1))) 16) 8)), (V.int .i8 (IntKind.wrap .i8 (subI .i64 (remI (f2 (0 + (Int.toNat i * 1))) 16) 8))), (V.ptr 2 (0 + (Int.toNat (mulI .i64 2 i) * 1))), (V.int .i64 i), (V.int .i64 (mulI .i64 2 i)), (V.int .i64 (addI .i64 (mulI .i64 2 i) 1)), (V.sl 5 0 33 (e3 + 33)), (V.int .i64 i), (V.ptr 5 (0 + (Int.toNat i * 1))), (V.int .i64 (f2 (0 + (Int.toNat i * 1)))), (V.int .i64 (quoI .i64 (f2 (0 + (Int.toNat i * 1))) 16)), (V.int .i64 (subI .i64 (quoI .i64 (f2 (0 + (Int.toNat i * 1))) 16) 8)), (V.int .i8 (IntKind.wrap .i8 (subI .i64 (quoI .i64 (f2 (0 + (Int.toNat i * 1))) 16) 8))), (V.ptr 2 (0 + (Int.toNat (addI .i64 (mulI .i64 2 i) 1) * 1))), V.un], [(V.ints .u8 32 a), (V.ints .i8 64 (fun _ => 0)), (V.ints .i8 64 (up (0 + (Int.toNat (addI .i64 (mulI .i64 2 i) 1) * 1)) (IntKind.wrap .i8 (subI .i64 (quoI .i64 (f2 (0 + (Int.toNat i * 1))) 16) 8)) (up (0 + (Int.toNat (mulI .i64 2 i) * 1)) (IntKind.wrap .i8 (subI .i64 (remI (f2 (0 + (Int.toNat i * 1))) 16) 8)) w))), (V.ints .i64 c hh), (V.ints .i64 (e1 + 32) f1), (V.ints .i64 (e3 + 33) f2)]⟩ by kernel_rfl) (h8 (V.keep [0, 1, 2, 3, 4, 5] μ t13) (V.keep [0, 1, 2, 3, 4, 5] μ t14) (V.keep [0, 1, 2, 3, 4, 5] μ t15) (V.keep [0, 1, 2, 3, 4, 5] μ t16) (V.keep [0, 1, 2, 3, 4, 5] μ t17) (V.keep [0, 1, 2, 3, 4, 5] μ t18) (V.keep [0, 1, 2, 3, 4, 5] μ t19) (V.int .i64 i) (V.bool (decide (i < 32))) (V.int .i64 i) (V.int .i64 (addI .i64 i 1)) (V.int .i64 i) (V.int .i64 (mulI .i64 2 i)) (V.sl 5 0 33 (e3 + 33)) (V.int .i64 i) (V.ptr 5 (0 + (Int.toNat i * 1))) (V.int .i64 (f2 (0 + (Int.toNat i * 1)))) (V.int .i64 (remI (f2 (0 + (Int.toNat i * 1))) 16)) (V.int .i64 (subI .i64 (remI (f2 (0 + (Int.toNat i * 1))) 16) 8)) (V.int .i8 (IntKind.wrap .i8 (subI .i64 (remI (f2 (0 + (Int.toNat i * 1))) 16) 8))) (V.ptr 2 (0 + (Int.toNat (mulI .i64 2 i) * 1))) (V.int .i64 i) (V.int .i64 (mulI .i64 2 i)) (V.int .i64 (addI .i64 (mulI .i64 2 i) 1)) (V.sl 5 0 33 (e3 + 33)) (V.int .i64 i) (V.ptr 5 (0 + (Int.toNat i * 1))) (V.int .i64 (f2 (0 + (Int.toNat i * 1)))) (V.int .i64 (quoI .i64 (f2 (0 + (Int.toNat i * 1))) 16)) (V.int .i64 (subI .i64 (quoI .i64 (f2 (0 + (Int.toNat i * 1))) 16) 8)) (V.int .i8 (IntKind.wrap .i8 (subI .i64 (quoI .i64 (f2 (0 + (Int.toNat i * 1))) 16) 8))) (V.ptr 2 (0 + (Int.toNat (addI .i64 (mulI .i64 2 i) 1) * 1))))⟩)) h7)) h6)) h5)) h4)) h3)) h2)) h1)) h0)) (fun h0 => h0) h)
theorem dgt2_cx (a : Nat → Int) (i0 i : Int) (c e1 e3 : Nat) (hh f1 f2 w : Nat → Int) (t13 t14 t15 t16 t17 t18 t19 t24 t25 t26 t27 t28 t29 t30 t31 t32 t33 t34 t35 t36 t37 t38 t39 t40 t41 t42 t43 t44 t45 t46 t47 t48 : V) (R : V) : (spineW Tryd.prog o20 GI 0 300 (dropLoop (body Tryd.f14)) (ends Tryd.prog Tryd.f14 fun v _ => okV R v)) (.exit 2) ⟨[(V.ints .u8 32 a), (V.ptr 0 0), (V.ptr 1 0), (V.bool false), (V.ptr 2 0), (V.sl 3 0 32 c), (V.int .i64 i0), (V.sl 5 0 33 (e3 + 33)), (V.int .i64 i), (V.ints .u8 32 a), (V.bool (canO a)), (V.bool (!(canO a))), V.un, t13, t14, t15, t16, t17, t18, t19, (V.sl 0 0 32 32), (V.sl 4 0 32 (e1 + 32)), (V.sl 3 0 32 c), (V.sl 5 0 33 (e3 + 33)), t24, t25, t26, t27, t28, t29, t30, t31, t32, t33, t34, t35, t36, t37, t38, t39, t40, t41, t42, t43, t44, t45, t46, t47, t48, V.un], [(V.ints .u8 32 a), (V.ints .i8 64 (fun _ => 0)), (V.ints .i8 64 w), (V.ints .i64 c hh), (V.ints .i64 (e1 + 32) f1), (V.ints .i64 (e3 + 33) f2)]⟩ = (okV R (V.tup [(V.ints .i8 64 (sh 0 w)), (V.bool true)])) := by kernel_rfl
theorem dig_l2 {a : Nat → Int} (ha : By 32 a) (hc : canO a = true) (i0 : Int) (c e1 e3 : Nat) (hh f1 f2 : Nat → Int) (hg : By 33 f2) (hv : dv 256 33 f2 = dv 256 32 a + dv 256 32 (fun _ => 136)) : ∀ (r k m : Nat), k + r = 32 → r + 1 ≤ m → ∀ (t13 t14 t15 t16 t17 t18 t19 t24 t25 t26 t27 t28 t29 t30 t31 t32 t33 t34 t35 t36 t37 t38 t39 t40 t41 t42 t43 t44 t45 t46 t47 t48 : V),
    (lpW 0 (awp Tryd.prog o20 GI 300 (loopOf (dropLoop (body Tryd.f14))))) ((spineW Tryd.prog o20 GI 0 300 (dropLoop (body Tryd.f14)) (ends Tryd.prog Tryd.f14 fun v _ => okV (V.tup [V.ints .i8 64 (digO a), V.bool (canO a)]) v))) m ⟨[(V.ints .u8 32 a), (V.ptr 0 0), (V.ptr 1 0), (V.bool false), (V.ptr 2 0), (V.sl 3 0 32 c), (V.int .i64 i0), (V.sl 5 0 33 (e3 + 33)), (V.int .i64 (k : Int)), (V.ints .u8 32 a), (V.bool (canO a)), (V.bool (!(canO a))), V.un, t13, t14, t15, t16, t17, t18, t19, (V.sl 0 0 32 32), (V.sl 4 0 32 (e1 + 32)), (V.sl 3 0 32 c), (V.sl 5 0 33 (e3 + 33)), t24, t25, t26, t27, t28, t29, t30, t31, t32, t33, t34, t35, t36, t37, t38, t39, t40, t41, t42, t43, t44, t45, t46, t47, t48, V.un], [(V.ints .u8 32 a), (V.ints .i8 64 (fun _ => 0)), (V.ints .i8 64 (ddF f2 k)), (V.ints .i64 c hh), (V.ints .i64 (e1 + 32) f1), (V.ints .i64 (e3 + 33) f2)]⟩
  | 0, k, m, hk, hm, t13, t14, t15, t16, t17, t18, t19, t24, t25, t26, t27, t28, t29, t30, t31, t32, t33, t34, t35, t36, t37, t38, t39, t40, t41, t42, t43, t44, t45, t46, t47, t48 => by
    obtain ⟨m, rfl⟩ : ∃ z, m = z + 1 := ⟨m - 1, by omega⟩
    obtain rfl : k = 32 := by omega
    refine dgt2_c _ _ _ _ _ _ _ _ _ _ _ _ _ _ _ _ _ _ _ _ _ _ _ _ _ _ _ _ _ _ _ _ _ _ _ _ _ _ _ _ _ _ _ _ ?_
    refine mBt (fun h => absurd (of_decide_eq_true h) (by omega)) (fun _ => ?_)
    rw [dgt2_cx]
    have e := ints_eq (k := .i8) (n := 64) (f := sh 0 (ddF f2 32)) (g := digO a) fun j hj => by
      rw [sh_at, Nat.zero_add, doc_dig ha hc hg hv j hj, digO_eq]
      simp only [hc, cond_true]
    rw [hc]
    exact congrArg (fun x => Value.tuple #[x, Value.bool true]) e
  | r + 1, k, m, hk, hm, t13, t14, t15, t16, t17, t18, t19, t24, t25, t26, t27, t28, t29, t30, t31, t32, t33, t34, t35, t36, t37, t38, t39, t40, t41, t42, t43, t44, t45, t46, t47, t48 => by
    obtain ⟨m, rfl⟩ : ∃ z, m = z + 1 := ⟨m - 1, by omega⟩
    refine dgt2_c _ _ _ _ _ _ _ _ _ _ _ _ _ _ _ _ _ _ _ _ _ _ _ _ _ _ _ _ _ _ _ _ _ _ _ _ _ _ _ _ _ _ _ _ ?_
    have hnx : addI .i64 (k : Int) 1 = ((k + 1 : Nat) : Int) := add1_nat k (by omega)
    have hm2 : mulI .i64 2 (k : Int) = ((2 * k : Nat) : Int) := by unfold mulI; rw [wrap_i64 _ (by omega)]; omega
    have hm3 : addI .i64 ((2 * k : Nat) : Int) 1 = ((2 * k + 1 : Nat) : Int) := add1_nat (2 * k) (by omega)
    have hix : ∀ n : Nat, 0 + (Int.toNat (n : Int) * 1) = n := fun n => by rw [Int.toNat_natCast]; omega
    rw [hnx, hm2, hm3, hix, hix, hix]
    have g1 : decide (0 ≤ (k : Int) ∧ (k : Int) < 33) = true := decide_eq_true (by omega)
    refine mBt (fun _ => gm g1 (gm (bltT.2 (by omega)) (gm (decide_eq_true (by omega)) (gm (bltT.2 (by omega)) (gm g1 (gm (bltT.2 (by omega)) (gm (decide_eq_true (by omega)) (gm (bltT.2 (by omega)) fun u13 u14 u15 u16 u17 u18 u19 u24 u25 u26 u27 u28 u29 u30 u31 u32 u33 u34 u35 u36 u37 u38 u39 u40 u41 u42 u43 u44 u45 u46 u47 u48 => ?_)))))))) (fun h => absurd (of_decide_eq_false h) (by omega))
    exact dig_l2 ha hc i0 c e1 e3 hh f1 f2 hg hv r (k + 1) m (by omega) (by omega) _ _ _ _ _ _ _ _ _ _ _ _ _ _ _ _ _ _ _ _ _ _ _ _ _ _ _ _ _ _ _ _
theorem dig_l1 {a : Nat → Int} (ha : By 32 a) (hc : canO a = true) : ∀ (r k c m : Nat) (hh : Nat → Int), k + r = 32 → r + 1 ≤ m → Has k c (fun _ => 136) hh → ∀ (t13 t14 t15 t16 t17 t18 t19 : V),
    (lpW 0 (awp Tryd.prog o20 GI 300 (loopOf (body Tryd.f14)))) ((spineW Tryd.prog o20 GI 0 300 (body Tryd.f14) (ends Tryd.prog Tryd.f14 fun v _ => okV (V.tup [V.ints .i8 64 (digO a), V.bool (canO a)]) v))) m ⟨[(V.ints .u8 32 a), (V.ptr 0 0), (V.ptr 1 0), (V.bool false), (V.ptr 2 0), (V.sl 3 0 k c), (V.int .i64 (k : Int)), V.un, V.un, (V.ints .u8 32 a), (V.bool (canO a)), (V.bool (!(canO a))), V.un, t13, t14, t15, t16, t17, t18, t19, V.un, V.un, V.un, V.un, V.un, V.un, V.un, V.un, V.un, V.un, V.un, V.un, V.un, V.un, V.un, V.un, V.un, V.un, V.un, V.un, V.un, V.un, V.un, V.un, V.un, V.un, V.un, V.un, V.un, V.un], [(V.ints .u8 32 a), (V.ints .i8 64 (fun _ => 0)), (V.ints .i8 64 (fun _ => 0)), (V.ints .i64 c hh)]⟩
  | 0, k, c, m, hh, hk, hm, hH, t13, t14, t15, t16, t17, t18, t19 => by
    obtain ⟨m, rfl⟩ : ∃ z, m = z + 1 := ⟨m - 1, by omega⟩
    obtain rfl : k = 32 := by omega
    refine dgt_b _ _ _ _ _ _ _ _ _ _ _ _ _ _ ?_
    refine mBt (fun h => absurd (of_decide_eq_true h) (by omega)) (fun _ => ?_)
    rw [dgt_ex]
    intro e1 g1
    refine gm (by rw [bleT.2 hH.1]; rfl) ?_
    intro e3 g2
    have n1 := nm_of g1 ha
    have n2 : Nm 32 hh (dv 256 32 (fun _ => 136)) := ⟨fun j hj => by rw [hH.2 j hj]; show (0 : Int) ≤ 136 ∧ (136 : Int) < 256; omega, dv_congr hH.2⟩
    have n3 := nm_sum (n := 33) g2 n1 n2 rfl
    exact dig_l2 ha hc _ c e1 e3 hh _ _ n3.1 n3.2 32 0 300 (by omega) (by omega) _ _ _ _ _ _ _ _ _ _ _ _ _ _ _ _ _ _ _ _ _ _ _ _ _ _ _ _ _ _ _ _
  | r + 1, k, c, m, hh, hk, hm, hH, t13, t14, t15, t16, t17, t18, t19 => by
    obtain ⟨m, rfl⟩ : ∃ z, m = z + 1 := ⟨m - 1, by omega⟩
    refine dgt_b _ _ _ _ _ _ _ _ _ _ _ _ _ _ ?_
    have hnx : addI .i64 (k : Int) 1 = ((k + 1 : Nat) : Int) := add1_nat k (by omega)
    rw [hnx]
    refine mBt (fun _ => mBt (fun hr => gm (ble_t (by have := bleT.1 hr; omega)) fun u13 u14 u15 u16 u17 u18 u19 => ?_) (fun _ => gm (gb1 hH.1 (by omega)) fun c1 hc1 u13 u14 u15 u16 u17 u18 u19 => ?_)) (fun h => absurd (of_decide_eq_false h) (by omega))
    · exact dig_l1 ha hc r (k + 1) c m _ (by omega) (by omega) (has_room hH (bleT.1 hr) rfl) _ _ _ _ _ _ _
    · exact dig_l1 ha hc r (k + 1) c1 m _ (by omega) (by omega) (has_grow hH.2 hc1 rfl) _ _ _ _ _ _ _
theorem dig_doc {a : Nat → Int} (hb : byO 32 a = true) : awq Tryd.prog o20 GI 0 300 (body Tryd.f14) (ends Tryd.prog Tryd.f14 fun v _ => okV (V.tup [V.ints .i8 64 (digO a), V.bool (canO a)]) v) ⟨[(V.ints .u8 32 a)] ++ List.replicate 49 V.un, []⟩ := by
  rw [dgt_h]
  have ha := byO_at hb
  refine gm hb (mBt (fun h => ?_) (fun h => ?_))
  · have h : canO a = false := by simpa using h
    rw [digO_eq]
    simp only [h, cond_false]
    exact okV_refl rfl
  · have hc : canO a = true := by simpa using h
    refine dgt_a _ _ _ _ _ _ _ _ _ _ _ ?_
    have hnx : addI .i64 0 1 = ((1 : Nat) : Int) := rfl
    rw [hnx]
    refine mBt (fun _ => fun c1 hc1 u13 u14 u15 u16 u17 u18 u19 => ?_) (fun h => absurd (of_decide_eq_false h) (by omega))
    exact dig_l1 ha hc 31 1 c1 299 _ (by omega) (by omega) (has_first hc1 rfl) _ _ _ _ _ _ _
noncomputable def g14 : List V → List V → Option (Bool × V) := fun vs m => match views [] vs m with
  | some ([.ints .u8 32 a], []) => some (byO 32 a, (V.tup [V.ints .i8 64 (digO a), V.bool (canO a)]))
  | _ => none
theorem g14_ok (vs m : List V) (v : V) (h : g14 vs m = some (true, v)) : v.flat = true ∧ ∀ μ B w0 w, Under B w0 → Rel μ B w0 m w → PureAt Tryd.prog 14 (vs.map (V.den μ)).toArray (v.den μ) w := by
  unfold g14 at h
  split at h
  · rename_i a hv
    simp only [Option.some.injEq, Prod.mk.injEq, Bool.and_eq_true] at h
    obtain ⟨h1, rfl⟩ := h
    refine ⟨rfl, ?_⟩
    exact reads_awq (fn := Tryd.f14) (N := 300) (n := 49) hM o20_ok GI_ok Tryd.func14 (by kernel_rfl) (by kernel_rfl) hv rfl (dig_doc h1) (by kernel_rfl) (by kernel_rfl)
  · cases h
theorem g14_grow (vs m : List V) (z : V) (r : Bool × V) (h : g14 vs m = some r) : g14 vs (m ++ [z]) = some r := by
  unfold g14 at h ⊢
  cases hv : views [] vs m with
  | none => rw [hv] at h; cases h
  | some p => rw [hv] at h; rw [views_grow hv]; exact h
noncomputable def dd14 : Orc := extM 14 g14 o20
theorem dd14_ok : OrcOK Tryd.prog dd14 := extM_ok o20_ok g14_ok g14_grow
end Go.Proofs.YtnoehjibponofaaDoor

/-
  Clamp, and ScalarDigits: the law's answer. Conditions: none.
-/
namespace Go.Proofs.YtnoehjibponofaaDoor
open Go.Ev Go.Num
def clB (a : Nat → Int) (j : Nat) : Int := if j = 0 then a 0 - a 0 % 8 else if j = 31 then a 31 % 64 + 64 else a j
theorem clB_0 (a : Nat → Int) : clB a 0 = a 0 - a 0 % 8 := rfl
theorem clB_31 (a : Nat → Int) : clB a 31 = a 31 % 64 + 64 := rfl
theorem clB_n (a : Nat → Int) {j : Nat} (h0 : j ≠ 0) (h1 : j ≠ 31) : clB a j = a j := by unfold clB; rw [if_neg h0, if_neg h1]
noncomputable def clO : (Nat → Int) → Nat → Int := Classical.choose (hide_ex clB)
theorem clO_eq : clO = clB := Classical.choose_spec (hide_ex clB)
theorem cl_1 : ∀ n : Fin 256, andNotI .u8 (n.val : Int) 7 = (n.val : Int) - (n.val : Int) % 8 := by decide +kernel
theorem cl_2 : ∀ n : Fin 256, orI .u8 (andI .u8 (n.val : Int) 127) 64 = (n.val : Int) % 64 + 64 := by decide +kernel
theorem cl_3 : ∀ n : Fin 256, subI .u8 (n.val : Int) (remI (n.val : Int) 8) = (n.val : Int) - (n.val : Int) % 8 := by decide +kernel
theorem cl_4 : ∀ n : Fin 256, addI .u8 (remI (n.val : Int) 64) 64 = (n.val : Int) % 64 + 64 := by decide +kernel
theorem cl_fin {x : Int} (h : 0 ≤ x ∧ x < 256) : ∃ n : Fin 256, x = (n.val : Int) := ⟨⟨x.toNat, by omega⟩, by show x = ((x.toNat : Nat) : Int); omega⟩
theorem cl_at {a : Nat → Int} (ha : By 32 a) : (∃ n : Fin 256, a 0 = (n.val : Int)) ∧ ∃ n : Fin 256, a 31 = (n.val : Int) := ⟨cl_fin (ha 0 (by omega)), cl_fin (ha 31 (by omega))⟩
theorem cl15_t (a : Nat → Int) (r : V) : awp Tryd.prog orc0 noG 300 (body Tryd.f15) (ends Tryd.prog Tryd.f15 fun v _ => okV r v) ⟨[V.ints .u8 32 a] ++ List.replicate 12 V.un, []⟩ = (okV r (V.ints .u8 32 (up 31 (orI .u8 (andI .u8 (a 31) 127) 64) (up 0 (andNotI .u8 (a 0) 7) a)))) := by kernel_rfl
theorem cl15_a {a : Nat → Int} (hg : byO 32 a = true) : awp Tryd.prog orc0 noG 300 (body Tryd.f15) (ends Tryd.prog Tryd.f15 fun v _ => okV (V.ints .u8 32 (clO a)) v) ⟨[V.ints .u8 32 a] ++ List.replicate 12 V.un, []⟩ := by
  rw [cl15_t]
  have ha := byO_at hg
  refine okV_ints (ints_eq fun j hj => ?_)
  obtain ⟨x0, x1⟩ := cl_at ha
  obtain ⟨x, hx⟩ := x0; obtain ⟨y, hy⟩ := x1
  rw [clO_eq]
  by_cases h1 : j = 31
  · subst h1; rw [clB_31, up_same, hy, cl_2]
  · rw [up_ne _ _ h1]
    by_cases h2 : j = 0
    · subst h2; rw [clB_0, up_same, hx, cl_1]
    · rw [up_ne _ _ h2, clB_n a h2 h1]
noncomputable def g15 : List V → Option (Bool × V) := fun | [.ints .u8 32 a] => some (byO 32 a, V.ints .u8 32 (clO a)) | _ => none
theorem g15_ok (vs : List V) (v : V) (h : g15 vs = some (true, v)) : (∀ μ μ', v.den μ' = v.den μ) ∧ ∀ μ w, PureAt Tryd.prog 15 (vs.map (V.den μ)).toArray (v.den μ) w := by
  unfold g15 at h
  split at h
  · simp only [Option.some.injEq, Prod.mk.injEq] at h
    obtain ⟨h, rfl⟩ := h
    exact pure_ok (F := orc0) (N := 300) (fn := Tryd.f15) (args := [_]) (r := _) (n := 12) hM orc0_ok (noG_ok _) Tryd.func15 (by kernel_rfl) (by kernel_rfl) (by kernel_rfl) (by kernel_rfl) (cl15_a h) (by kernel_rfl)
  · cases h
theorem cl16_t (a : Nat → Int) (r : V) : awp Tryd.prog orc0 noG 300 (body Tryd.f16) (ends Tryd.prog Tryd.f16 fun v _ => okV r v) ⟨[V.ints .u8 32 a] ++ List.replicate 26 V.un, []⟩ = (okV r (V.ints .u8 32 (up 31 (addI .u8 (remI (a 31) 64) 64) (up 0 (subI .u8 (a 0) (remI (a 0) 8)) (w32 a))))) := by kernel_rfl
theorem cl16_a {a : Nat → Int} (hg : byO 32 a = true) : awp Tryd.prog orc0 noG 300 (body Tryd.f16) (ends Tryd.prog Tryd.f16 fun v _ => okV (V.ints .u8 32 (clO a)) v) ⟨[V.ints .u8 32 a] ++ List.replicate 26 V.un, []⟩ := by
  rw [cl16_t]
  have ha := byO_at hg
  refine okV_ints (ints_eq fun j hj => ?_)
  obtain ⟨x0, x1⟩ := cl_at ha
  obtain ⟨x, hx⟩ := x0; obtain ⟨y, hy⟩ := x1
  rw [clO_eq]
  by_cases h1 : j = 31
  · subst h1; rw [clB_31, up_same, hy, cl_4]
  · rw [up_ne _ _ h1]
    by_cases h2 : j = 0
    · subst h2; rw [clB_0, up_same, hx, cl_3]
    · rw [up_ne _ _ h2, clB_n a h2 h1]; exact w32_lo a j hj
noncomputable def g16 : List V → Option (Bool × V) := fun | [.ints .u8 32 a] => some (byO 32 a, V.ints .u8 32 (clO a)) | _ => none
theorem g16_ok (vs : List V) (v : V) (h : g16 vs = some (true, v)) : (∀ μ μ', v.den μ' = v.den μ) ∧ ∀ μ w, PureAt Tryd.prog 16 (vs.map (V.den μ)).toArray (v.den μ) w := by
  unfold g16 at h
  split at h
  · simp only [Option.some.injEq, Prod.mk.injEq] at h
    obtain ⟨h, rfl⟩ := h
    exact pure_ok (F := orc0) (N := 300) (fn := Tryd.f16) (args := [_]) (r := _) (n := 26) hM orc0_ok (noG_ok _) Tryd.func16 (by kernel_rfl) (by kernel_rfl) (by kernel_rfl) (by kernel_rfl) (cl16_a h) (by kernel_rfl)
  · cases h
noncomputable def d15 : Orc := ext 15 g15 p13
theorem d15_ok : OrcOK Tryd.prog d15 := ext_ok p13_ok g15_ok
noncomputable def d16 : Orc := ext 16 g16 d15
theorem d16_ok : OrcOK Tryd.prog d16 := ext_ok d15_ok g16_ok
noncomputable def d14 : Orc := extM 14 g14 d16
theorem d14_ok : OrcOK Tryd.prog d14 := extM_ok d16_ok g14_ok g14_grow
theorem lawDigits_t (a : Nat → Int) : awp Tryd.prog d14 noG 300 (body Tryd.f3) (ends Tryd.prog Tryd.f3 fun v _ => okV (V.bool true) v) ⟨[(V.ints .u8 32 a)] ++ List.replicate 31 V.un, [(V.tup [V.fn 2, (V.ints .u64 4 ordF)])]⟩ = (gB (byO 32 a) (mB (eqN 64 (digO a) (digO a)) (mB ((canO a) == (canO a)) (gB (byO 32 a) (gB (byO 32 a) (okV (V.bool true) (V.bool (eqN 32 (clO a) (clO a)))))) (okV (V.bool true) (V.bool false))) (okV (V.bool true) (V.bool false)))) := by kernel_rfl
theorem lawDigits_a {a : Nat → Int} (ha : By 32 a) : awp Tryd.prog d14 noG 300 (body Tryd.f3) (ends Tryd.prog Tryd.f3 fun v _ => okV (V.bool true) v) ⟨[(V.ints .u8 32 a)] ++ List.replicate 31 V.un, [(V.tup [V.fn 2, (V.ints .u64 4 ordF)])]⟩ := by
  rw [lawDigits_t]
  have g := byO_mk ha
  exact gm g (mBt (fun _ => mBt (fun _ => gm g (gm g (okV_bool (eqN_refl _ _)))) (fun h => by simp at h)) (fun h => by rw [eqN_refl] at h; cases h))
end Go.Proofs.YtnoehjibponofaaDoor
