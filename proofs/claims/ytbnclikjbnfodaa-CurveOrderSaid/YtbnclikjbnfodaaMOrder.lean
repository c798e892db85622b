/-
  The base point's order: L times it is the neutral point. Conditions: none.
-/
import Derived.Test.YtbnclikjbnfodaaZ19
namespace Go.Proofs.Ytbnclikjbnfodaa
set_option maxRecDepth 100000
open Go.Ev Go.Num

/-- k of a, where a is reckoned first. -/
noncomputable def fc {α : Type} (a : K) (k : K → α) : α :=
  (Nat.rec (motive := fun n => n < 57896044618658097711785492504343953926634992332820282019728792003956564819949 → α) (fun h => k ⟨0, h⟩) (fun m _ h => k ⟨Nat.succ m, h⟩) a.val : a.val < 57896044618658097711785492504343953926634992332820282019728792003956564819949 → α) a.isLt
theorem fc_eq {α : Type} (a : K) (k : K → α) : fc a k = k a := by
  obtain ⟨v, h⟩ := a
  cases v <;> rfl
/-- The sum's coordinates. -/
noncomputable def padd (X1 Y1 Z1 T1 X2 Y2 Z2 T2 : K) (k : K → K → K → K → Bool) : Bool :=
  fc ((Y1 - X1) * (Y2 - X2)) fun a => fc ((Y1 + X1) * (Y2 + X2)) fun b => fc (T1 * 16295367250680780974490674513165176452449235426866156013048779062215315747161 * T2) fun c => fc ((Z1 + Z1) * Z2) fun d =>
  fc ((b - a) * (d - c)) fun X => fc ((d + c) * (b + a)) fun Y => fc ((d - c) * (d + c)) fun Z => fc ((b - a) * (b + a)) fun T => k X Y Z T
/-- Coordinates that are a form of a point. -/
def FK (X Y Z T : K) (A : Pn) : Prop := ∃ z : K, z ≠ 0 ∧ X = A.x * z ∧ Y = A.y * z ∧ Z = z ∧ T = A.x * A.y * z
theorem D2_eq : (16295367250680780974490674513165176452449235426866156013048779062215315747161 : K) = D + D := by
  unfold D
  rw [← kk_add]
  decide
theorem add_fk {X1 Y1 Z1 T1 X2 Y2 Z2 T2 : K} {A B : Pn} (hq : FK X1 Y1 Z1 T1 A) (hr : FK X2 Y2 Z2 T2 B) {a b c d : K}
    (ha : a = (Y1 - X1) * (Y2 - X2)) (hb : b = (Y1 + X1) * (Y2 + X2)) (hc : c = T1 * (D + D) * T2) (hd : d = (Z1 + Z1) * Z2) :
    FK ((b - a) * (d - c)) ((d + c) * (b + a)) ((d - c) * (d + c)) ((b - a) * (b + a)) (A.add B) := by
  obtain ⟨z, hz, rfl, rfl, rfl, rfl⟩ := hq
  obtain ⟨w, hw, rfl, rfl, rfl, rfl⟩ := hr
  have ax := add_x A B
  have ay := add_y A B
  obtain ⟨n1, n2⟩ := full A.on B.on
  have e1 : b - a = 2 * (Z1 * Z2) * (A.x * B.y + B.x * A.y) := by rw [ha, hb]; clear ax ay n1 n2 ha hb hc hd; grind -lia
  have e2 : b + a = 2 * (Z1 * Z2) * (A.y * B.y + A.x * B.x) := by rw [ha, hb]; clear ax ay n1 n2 ha hb hc hd e1; grind -lia
  have e3 : d - c = 2 * (Z1 * Z2) * (1 - D * A.x * B.x * A.y * B.y) := by rw [hc, hd]; generalize D = dd; clear ax ay n1 n2 ha hb hc hd e1 e2; grind -lia
  have e4 : d + c = 2 * (Z1 * Z2) * (1 + D * A.x * B.x * A.y * B.y) := by rw [hc, hd]; generalize D = dd; clear ax ay n1 n2 ha hb hc hd e1 e2 e3; grind -lia
  rw [e1, e2, e3, e4, ← ax, ← ay]
  refine ⟨_, ?_, ?_, ?_, rfl, ?_⟩
  · exact k_mul_ne (k_mul_ne (k_mul_ne two_ne (k_mul_ne hz hw)) n2) (k_mul_ne (k_mul_ne two_ne (k_mul_ne hz hw)) n1)
  all_goals
    generalize (A.add B).x = X
    generalize (A.add B).y = Y
    generalize D * A.x * B.x * A.y * B.y = e
    clear ax ay n1 n2 ha hb hc hd e1 e2 e3 e4
    grind -lia
theorem padd_spec {X1 Y1 Z1 T1 X2 Y2 Z2 T2 : K} {A B : Pn} (hq : FK X1 Y1 Z1 T1 A) (hr : FK X2 Y2 Z2 T2 B) (k : K → K → K → K → Bool) :
    ∃ X Y Z T, padd X1 Y1 Z1 T1 X2 Y2 Z2 T2 k = k X Y Z T ∧ FK X Y Z T (A.add B) := by
  refine ⟨_, _, _, _, ?_, add_fk hq hr rfl rfl rfl rfl⟩
  unfold padd
  simp only [fc_eq, D2_eq]
noncomputable def go : List Bool → K → K → K → K → Bool
  | [], X, Y, Z, _ => decide (X = 0) && decide (Y = Z)
  | b :: l, X, Y, Z, T => padd X Y Z T X Y Z T fun X Y Z T => match b with
    | false => go l X Y Z T
    | true => padd X Y Z T 15112221349535400772501151409588531511454012693041857206046113283949847762202 46316835694926478169428394003475163141307993866256225615783033603165251855960 1 46827403850823179245072216630277197565144205554125654976674165829533817101731 fun X Y Z T => go l X Y Z T
def bv : List Bool → Nat → Nat
  | [], n => n
  | b :: l, n => bv l (2 * n + (match b with | true => 1 | false => 0))
theorem base_fk : FK 15112221349535400772501151409588531511454012693041857206046113283949847762202 46316835694926478169428394003475163141307993866256225615783033603165251855960 1 46827403850823179245072216630277197565144205554125654976674165829533817101731 Bp := by
  refine ⟨1, by decide, ?_, ?_, rfl, ?_⟩
  · show _ = kk _ * 1
    decide
  · show _ = kk _ * 1
    decide
  · show _ = kk _ * kk _ * 1
    decide
theorem go_spec : ∀ (l : List Bool) {X Y Z T : K} {n : Nat}, go l X Y Z T = true → FK X Y Z T (smu n Bp) → smu (bv l n) Bp = .zero
  | [], X, Y, Z, T, n, h, hf => by
    obtain ⟨z, hz, rfl, rfl, rfl, rfl⟩ := hf
    unfold go at h
    rw [Bool.and_eq_true, decide_eq_true_eq, decide_eq_true_eq] at h
    have hx := (k_mul_zero h.1).resolve_right hz
    have hy : (smu n Bp).y = 1 := by
      refine k_cancel hz ?_
      rw [h.2, Fin.one_mul]
    exact Pn.ext' hx hy
  | false :: l, X, Y, Z, T, n, h, hf => by
    have h : padd X Y Z T X Y Z T (fun X Y Z T => go l X Y Z T) = true := h
    obtain ⟨X', Y', Z', T', e, hf'⟩ := padd_spec hf hf (fun X Y Z T => go l X Y Z T)
    rw [e] at h
    rw [smu_two] at hf'
    exact go_spec l h hf'
  | true :: l, X, Y, Z, T, n, h, hf => by
    have h : padd X Y Z T X Y Z T (fun X Y Z T => padd X Y Z T 15112221349535400772501151409588531511454012693041857206046113283949847762202 46316835694926478169428394003475163141307993866256225615783033603165251855960 1 46827403850823179245072216630277197565144205554125654976674165829533817101731 fun X Y Z T => go l X Y Z T) = true := h
    obtain ⟨X', Y', Z', T', e, hf'⟩ := padd_spec hf hf (fun X Y Z T => padd X Y Z T 15112221349535400772501151409588531511454012693041857206046113283949847762202 46316835694926478169428394003475163141307993866256225615783033603165251855960 1 46827403850823179245072216630277197565144205554125654976674165829533817101731 fun X Y Z T => go l X Y Z T)
    rw [e] at h
    rw [smu_two] at hf'
    obtain ⟨X2, Y2, Z2, T2, e2, hf2⟩ := padd_spec hf' base_fk (fun X Y Z T => go l X Y Z T)
    rw [e2] at h
    rw [← smu_succ] at hf2
    exact go_spec l h hf2
def Lbits : List Bool := [true, false, false, false, false, false, false, false, false, false, false, false, false, false, false, false, false, false, false, false, false, false, false, false, false, false, false, false, false, false, false, false, false, false, false, false, false, false, false, false, false, false, false, false, false, false, false, false, false, false, false, false, false, false, false, false, false, false, false, false, false, false, false, false, false, false, false, false, false, false, false, false, false, false, false, false, false, false, false, false, false, false, false, false, false, false, false, false, false, false, false, false, false, false, false, false, false, false, false, false, false, false, false, false, false, false, false, false, false, false, false, false, false, false, false, false, false, false, false, false, false, false, false, false, false, false, false, false, true, false, true, false, false, true, true, false, true, true, true, true, false, true, true, true, true, true, false, false, true, true, true, false, true, true, true, true, false, true, false, true, false, false, false, true, false, true, true, true, true, false, true, true, true, true, false, false, true, true, true, false, false, true, true, false, true, false, true, true, false, false, true, false, true, true, false, false, false, false, false, false, true, false, false, true, false, false, true, true, false, false, false, true, true, false, false, false, true, true, false, true, false, false, true, false, true, true, true, false, false, true, true, true, true, false, true, false, true, true, true, false, true, false, false, true, true, true, true, true, false, true, true, false, true]
def Lnum : Nat := 7237005577332262213973186563042994240857116359379907606001950938285454250989
theorem go_ok : go Lbits 0 1 1 0 = true := by kernel_rfl
theorem Lbits_v : bv Lbits 0 = Lnum := by decide +kernel
theorem order : smu Lnum Bp = .zero := by
  rw [← Lbits_v]
  refine go_spec Lbits go_ok ⟨1, by decide, ?_, ?_, rfl, ?_⟩ <;> (rw [smu_0]; decide)
end Go.Proofs.Ytbnclikjbnfodaa
