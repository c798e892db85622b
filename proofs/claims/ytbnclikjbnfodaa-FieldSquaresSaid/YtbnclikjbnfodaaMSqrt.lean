/-
  Roots of quotients modulo p: what both sides come to. Conditions: none.
-/
import Derived.Test.YtbnclikjbnfodaaWRoots
import Derived.Test.YtbnclikjbnfodaaMField
import Derived.Test.YtbnclikjbnfodaaLInverse
import Derived.Test.YtbnclikjbnfodaaLTells
namespace Go.Proofs.Ytbnclikjbnfodaa
open Go.Ev Go.Num

def E8 : Nat := 7237005577332262213973186563042994240829374041602535252466099000494570602493
def Q4 : Nat := 14474011154664524427946373126085988481658748083205070504932198000989141204987
theorem E8_Q4 : 2 * E8 + 1 = Q4 := by decide
theorem Q4_4 : 4 * Q4 = pN - 1 := by decide
theorem E8_8 : 8 * E8 + 4 = pN - 1 := by decide

/-- The same modulo p. -/
def Eqp (a b : Int) : Prop := a % p = b % p
theorem Eqp.refl (a : Int) : Eqp a a := rfl
theorem Eqp.of {a b : Int} (h : a = b) : Eqp a b := by rw [h]; rfl
theorem Eqp.symm {a b : Int} (h : Eqp a b) : Eqp b a := Eq.symm h
theorem Eqp.trans {a b c : Int} (h : Eqp a b) (h' : Eqp b c) : Eqp a c := Eq.trans h h'
theorem Eqp.mul {a b c d : Int} (h : Eqp a b) (h' : Eqp c d) : Eqp (a * c) (b * d) := by unfold Eqp at *; rw [← ml, ← mr, h, h', ml, mr]
theorem Eqp.add {a b c d : Int} (h : Eqp a b) (h' : Eqp c d) : Eqp (a + c) (b + d) := by unfold Eqp at *; rw [← al, ← ar, h, h', al, ar]
theorem Eqp.neg {a b : Int} (h : Eqp a b) : Eqp (-a) (-b) := by unfold Eqp at *; rw [← nm, h, nm]
theorem Eqp.pow {a b : Int} (h : Eqp a b) (n : Nat) : Eqp (a ^ n) (b ^ n) := by unfold Eqp at *; rw [← pow_emod', h, pow_emod']
theorem Eqp.mod (a : Int) : Eqp (a % p) a := me a
theorem fermE {X : Int} (hx : X % p ≠ 0) : Eqp (X ^ (pN - 1)) 1 := by unfold Eqp; rw [fermatI hx]; rfl
theorem fermK {X : Int} (hx : X % p ≠ 0) (k : Nat) : Eqp (X ^ ((pN - 1) * k)) 1 := by
  rw [Int.pow_mul]; exact ((fermE hx).pow k).trans (.of (Int.one_pow ..))

/-- The quotient. -/
def quot (U V : Int) : Int := U * V ^ (pN - 2)
theorem quot_mul {U V : Int} (hV : V % p ≠ 0) : Eqp (quot U V * V) U := by
  have h : Eqp (V * V ^ (pN - 2)) 1 := by unfold Eqp; rw [inv_mul hV]; rfl
  have e : quot U V * V = U * (V * V ^ (pN - 2)) := by unfold quot; grind
  rw [e]
  exact ((Eqp.refl U).mul h).trans (.of (Int.mul_one _))

/-- The program's root is the quotient's power (p + 3) / 8. -/
theorem root_same {U V : Int} (hV : V % p ≠ 0) : Eqp (U * (V * V * V) * (U * (V * V * V * (V * V * V)) * V) ^ E8) (quot U V ^ (E8 + 1)) := by
  have hq := quot_mul (U := U) hV
  generalize quot U V = X at *
  have h1 : Eqp (U * (V * V * V) * (U * (V * V * V * (V * V * V)) * V) ^ E8) (X * V * (V * V * V) * (X * V * (V * V * V * (V * V * V)) * V) ^ E8) :=
    (hq.symm.mul (.refl _)).mul (((hq.symm.mul (.refl _)).mul (.refl _)).pow _)
  refine h1.trans ?_
  have e : X * V * (V * V * V) * (X * V * (V * V * V * (V * V * V)) * V) ^ E8 = X ^ (E8 + 1) * V ^ (pN - 1) := by
    rw [← E8_8, show V ^ (8 * E8 + 4) = (V ^ 8) ^ E8 * V ^ 4 by rw [Int.pow_add, Int.pow_mul], show X ^ (E8 + 1) = X ^ E8 * X from Int.pow_succ .., show X * V * (V * V * V * (V * V * V)) * V = X * V ^ 8 by grind, Int.mul_pow]
    generalize X ^ E8 = A
    generalize (V ^ 8) ^ E8 = B
    grind
  rw [e]
  exact ((Eqp.refl _).mul (fermE hV)).trans (.of (Int.mul_one _))

/-- The square of the quotient's power. -/
theorem root_sq (X : Int) : X ^ (E8 + 1) * X ^ (E8 + 1) = X * X ^ Q4 := by
  rw [← E8_Q4, ← Int.pow_add, ← Int.pow_succ']
  exact congrArg (fun k : Nat => X ^ k) (by omega)

theorem eqp_iff_mul {A B V : Int} (hV : V % p ≠ 0) : Eqp (A * V) (B * V) ↔ Eqp A B := ⟨fun h => cancel hV h, fun h => h.mul (.refl V)⟩

/-- The test of the program and the test of the document. -/
theorem test1 {U V R : Int} (hV : V % p ≠ 0) (hR : Eqp R (quot U V ^ (E8 + 1))) : Eqp (V * (R * R)) U ↔ Eqp (quot U V * quot U V ^ Q4) (quot U V) := by
  have h1 : Eqp (V * (R * R)) (quot U V * quot U V ^ Q4 * V) := by
    have e : quot U V * quot U V ^ Q4 * V = V * (quot U V ^ (E8 + 1) * quot U V ^ (E8 + 1)) := by rw [root_sq]; grind
    rw [e]; exact (Eqp.refl V).mul (hR.mul hR)
  have hq := quot_mul (U := U) hV
  constructor
  · intro h
    exact (eqp_iff_mul hV).1 ((h1.symm.trans h).trans hq.symm)
  · intro h
    exact (h1.trans ((eqp_iff_mul hV).2 h)).trans hq
theorem test2 {U V R : Int} (hV : V % p ≠ 0) (hR : Eqp R (quot U V ^ (E8 + 1))) : Eqp (V * (R * R)) (-U) ↔ Eqp (quot U V * quot U V ^ Q4) (-quot U V) := by
  have h1 : Eqp (V * (R * R)) (quot U V * quot U V ^ Q4 * V) := by
    have e : quot U V * quot U V ^ Q4 * V = V * (quot U V ^ (E8 + 1) * quot U V ^ (E8 + 1)) := by rw [root_sq]; grind
    rw [e]; exact (Eqp.refl V).mul (hR.mul hR)
  have hq : Eqp (-quot U V * V) (-U) := by
    have := (quot_mul (U := U) hV).neg
    rwa [← Int.neg_mul] at this
  constructor
  · intro h
    exact (eqp_iff_mul hV).1 ((h1.symm.trans h).trans hq.symm)
  · intro h
    exact (h1.trans ((eqp_iff_mul hV).2 h)).trans hq

/-- The root of -1. -/
def I4 : Int := 2 ^ Q4
theorem two_sq (n : Nat) : (2 : Int) ^ n * 2 ^ n = 2 ^ (2 * n) := by rw [← Int.pow_add, show n + n = 2 * n by omega]
theorem pm_int {n : Nat} (h : n < 2 ^ 256) : (2 : Int) ^ n % p = ((pm pN 256 2 n : Nat) : Int) := by
  rw [pm_eq _ _ _ _ h, p_pN]
  push_cast
  rfl
theorem I4_sq : Eqp (I4 * I4) (-1) := by
  unfold Eqp I4
  rw [two_sq, pm_int (by decide)]
  decide +kernel

/-- An even one of a number and its negative, reduced. -/
def ev (Z : Int) : Int := if Z % p % 2 = 1 then -Z else Z
theorem select_ev {r : Nat → Int} {Z : Int} (h : Is r Z) : Is (selectF (isOddF r) (negF r) r) (ev Z) := by
  rw [isOdd_v h.u, h.v]
  unfold ev
  by_cases e : Z % p % 2 = 1
  · rw [if_pos e, e]
    exact (select_i (y := r) (negK h).u).to (negK h).v
  · rw [if_neg e, show (Z % p % 2 == 1) = false by simpa using e]
    exact (select_i' (x := negF r) h.u).to h.v
/-- The document's digits that mean Z. -/
def Ir (a : Nat → Int) (Z : Int) : Prop := v10 a = Z % p ∧ D10 a
theorem Ir.to {x : Nat → Int} {X Y : Int} (h : Ir x X) (e : Eqp X Y) : Ir x Y := ⟨by rw [h.1]; exact e, h.2⟩
theorem ofI {x : Nat → Int} (h : U5 x) : Ir (rOf x) (v5 x) := of_r h
theorem mulR {a b : Nat → Int} {X Y : Int} (ha : Ir a X) (hb : Ir b Y) : Ir (rMul a b) (X * Y) := by
  obtain ⟨h1, h2⟩ := mul_r ha.2 hb.2
  exact ⟨by rw [h1, ha.1, hb.1, ml, mr], h2⟩
theorem powR {a e : Nat → Int} {X : Int} {n : Nat} (ha : Ir a X) (he : B32 e) (hn : vb e = (n : Int)) : Ir (rPow a e) (X ^ n) := by
  obtain ⟨h1, h2⟩ := pow_r ha.2 he
  rw [hn, Int.toNat_natCast, ha.1, pow_emod'] at h1
  exact ⟨h1, h2⟩
theorem invR {a : Nat → Int} {X : Int} (ha : Ir a X) : Ir (rInvert a) (X ^ (pN - 2)) := by
  obtain ⟨h1, h2⟩ := inv_r ha.2
  rw [ha.1, pow_emod'] at h1
  exact ⟨h1, h2⟩
theorem smallR (n : Int) (h0 : 0 ≤ n) (h1 : n < 18446744073709551616) : Ir (rSmall n) n := by
  obtain ⟨s1, s2⟩ := small_r h0 h1
  exact ⟨by rw [s1]; exact (Int.emod_eq_of_lt h0 (by unfold p; omega)).symm, s2⟩
theorem even_ev {a : Nat → Int} {Z : Int} (h : Ir a Z) : Ir (rEven a) (ev Z) := by
  unfold rEven
  rw [rIsOddO_eq, rNegO_eq, rIsOdd_v, h.1]
  unfold ev
  by_cases e : Z % p % 2 = 1
  · rw [if_pos e, e]
    obtain ⟨h1, h2⟩ := neg_r h.2
    exact ⟨by show v10 (rNeg a) = _; rw [h1, h.1, nm], h2⟩
  · rw [if_neg e, show (Z % p % 2 == 1) = false by simpa using e]
    exact h
theorem eqR {a b : Nat → Int} {X Y : Int} (ha : Ir a X) (hb : Ir b Y) : eqN 10 a b = decide (X % p = Y % p) := by rw [eq10 ha.2 hb.2, ha.1, hb.1]
theorem isEI {x a : Nat → Int} {X Y : Int} (hx : Is x X) (ha : Ir a Y) (h : Eqp X Y) : isE x a = true := is_of hx.2 ha.2 (by rw [hx.1, ha.1]; exact h)

theorem pb1 : B32 (power255 253 15) := by unfold B32; decide
theorem pb1_v : vb (power255 253 15) = (E8 : Int) := by decide
theorem pb2 : B32 (power255 251 31) := by unfold B32; decide
theorem pb2_v : vb (power255 251 31) = (Q4 : Int) := by decide
theorem pb3 : B32 (rPower 254 15) := by unfold B32; decide
theorem pb3_v : vb (rPower 254 15) = ((E8 + 1 : Nat) : Int) := by decide
theorem pb4 : B32 (rPower 251 31) := by unfold B32; decide
theorem pb4_v : vb (rPower 251 31) = (Q4 : Int) := by decide

theorem Ir0 : Ir (fun _ => 0) 0 := ⟨v10_zero, D10_zero⟩
theorem Is0 : Is (fun _ => 0) 0 := ⟨v5_zero, R5_zero⟩

/-- What SqrtRatio says, in numbers. -/
def sqZ (U V : Int) : Int × Bool :=
  if V % p = 0 then (0, decide (U % p = 0))
  else if quot U V * quot U V ^ Q4 % p = quot U V % p then (ev (quot U V ^ (E8 + 1)), true)
  else if quot U V * quot U V ^ Q4 % p = -quot U V % p then (ev (quot U V ^ (E8 + 1) * I4), true)
  else (0, false)

theorem ev_eqp {A B : Int} (h : Eqp A B) : Eqp (ev A) (ev B) := by
  unfold ev
  rw [show A % p = B % p from h]
  split
  · exact h.neg
  · exact h

theorem sqrt_v {u y : Nat → Int} (hu : U5 u) (hy : U5 y) : Is (sqrtF u y).1 (sqZ (v5 u) (v5 y)).1 ∧ (sqrtF u y).2 = (sqZ (v5 u) (v5 y)).2 := by
  unfold sqrtF sqZ
  rw [isZeroFO_eq, equalFO_eq, mulFO_eq, squareFO_eq, powFO_eq, negFO_eq, selectFO_eq, isOddFO_eq, smallFO_eq, isZero_i hy rfl, isZero_i hu rfl]
  by_cases h0 : v5 y % p = 0
  · rw [decide_eq_true h0, cond_true, if_pos h0]
    exact ⟨Is0, rfl⟩
  · rw [decide_eq_false h0, cond_false, if_neg h0]
    have U : Is (reduceF u) (v5 u) := reduce_i hu
    have s2 := sq_i hy
    have v3 : Is (mulF (squareF y) y) (v5 y * v5 y * v5 y) := (mul_i s2.u hy).to (by rw [s2.1, ml])
    have s6 := sqK v3
    have w1 : Is (mulF u (squareF (mulF (squareF y) y))) (v5 u * (v5 y * v5 y * v5 y * (v5 y * v5 y * v5 y))) := (mul_i hu s6.u).to (by rw [s6.1, mr])
    have w2 : Is (mulF (mulF u (squareF (mulF (squareF y) y))) y) (v5 u * (v5 y * v5 y * v5 y * (v5 y * v5 y * v5 y)) * v5 y) := (mul_i w1.u hy).to (by rw [w1.1, ml])
    have pw := powK w2 pb1 pb1_v
    have uv : Is (mulF u (mulF (squareF y) y)) (v5 u * (v5 y * v5 y * v5 y)) := (mul_i hu v3.u).to (by rw [v3.1, mr])
    have r0 := (mulK uv pw).to (root_same (U := v5 u) h0)
    generalize mulF (mulF u (mulF (squareF y) y)) (powF (mulF (mulF u (squareF (mulF (squareF y) y))) y) (power255 253 15)) = r at *
    have rr := sqK r0
    have vr : Is (mulF y (squareF r)) (v5 y * (quot (v5 u) (v5 y) ^ (E8 + 1) * quot (v5 u) (v5 y) ^ (E8 + 1))) := (mul_i hy rr.u).to (by rw [rr.1, mr])
    have t1 := test1 (U := v5 u) h0 (.refl _)
    have t2 := test2 (U := v5 u) h0 (.refl _)
    unfold Eqp at t1 t2
    have e1 : equalF (mulF y (squareF r)) u = decide (quot (v5 u) (v5 y) * quot (v5 u) (v5 y) ^ Q4 % p = quot (v5 u) (v5 y) % p) := by
      rw [equal_v vr.u hu, vr.v]; exact decide_eq_decide.2 t1
    have e2 : equalF (mulF y (squareF r)) (negF u) = decide (quot (v5 u) (v5 y) * quot (v5 u) (v5 y) ^ Q4 % p = -quot (v5 u) (v5 y) % p) := by
      rw [equal_v vr.u (neg_i hu).u, vr.v, (neg_i hu).v]; exact decide_eq_decide.2 t2
    rw [e1, e2]
    by_cases c1 : quot (v5 u) (v5 y) * quot (v5 u) (v5 y) ^ Q4 % p = quot (v5 u) (v5 y) % p
    · rw [decide_eq_true c1, cond_true, if_pos c1]
      exact ⟨select_ev r0, rfl⟩
    · rw [decide_eq_false c1, cond_false, if_neg c1]
      by_cases c2 : quot (v5 u) (v5 y) * quot (v5 u) (v5 y) ^ Q4 % p = -quot (v5 u) (v5 y) % p
      · rw [decide_eq_true c2, cond_true, if_pos c2]
        exact ⟨select_ev (mulK r0 (powK (small_i 2 (by omega) (by omega)) pb2 pb2_v)), rfl⟩
      · rw [decide_eq_false c2, cond_false, if_neg c2]
        exact ⟨Is0, rfl⟩

theorem sqrt_r {a b : Nat → Int} {U V : Int} (ha : Ir a U) (hb : Ir b V) : Ir (rSqrt a b).1 (sqZ U V).1 ∧ (rSqrt a b).2 = (sqZ U V).2 := by
  have z : ∀ {a : Nat → Int} {X : Int}, Ir a X → rIsZero a = decide (X % p = 0) := fun h => by rw [rIsZero_v h.2, h.1]
  unfold rSqrt sqZ
  rw [rIsZeroO_eq, rMulO_eq, rPowO_eq, rInvertO_eq, rEvenO_eq, rSmallO_eq, z ha, z hb]
  by_cases h0 : V % p = 0
  · rw [decide_eq_true h0, cond_true, if_pos h0]
    exact ⟨Ir0, rfl⟩
  · rw [decide_eq_false h0, cond_false, if_neg h0]
    have x : Ir (rMul a (rInvert b)) (quot U V) := mulR ha (invR hb)
    generalize rMul a (rInvert b) = c at *
    have r := powR x pb3 pb3_v
    generalize rPow c (rPower 254 15) = r' at *
    have rr := mulR r r
    have i := powR (smallR 2 (by omega) (by omega)) pb4 pb4_v
    generalize rPow (rSmall 2) (rPower 251 31) = i' at *
    have ri := mulR r i
    generalize rMul r' i' = k at *
    have kk := mulR ri ri
    have e1 : eqN 10 (rMul r' r') c = decide (quot U V * quot U V ^ Q4 % p = quot U V % p) := by
      rw [eqR rr x, root_sq]
    have e2 : eqN 10 (rMul k k) c = decide (quot U V * quot U V ^ Q4 % p = -quot U V % p) := by
      rw [eqR kk x]
      have h : Eqp (quot U V ^ (E8 + 1) * 2 ^ Q4 * (quot U V ^ (E8 + 1) * 2 ^ Q4)) (-(quot U V * quot U V ^ Q4)) := by
        rw [← root_sq, show quot U V ^ (E8 + 1) * 2 ^ Q4 * (quot U V ^ (E8 + 1) * 2 ^ Q4) = quot U V ^ (E8 + 1) * quot U V ^ (E8 + 1) * (I4 * I4) by unfold I4; grind]
        exact ((Eqp.refl _).mul I4_sq).trans (.of (by grind))
      refine decide_eq_decide.2 ⟨fun g => ?_, fun g => ?_⟩
      · have g2 := (h.symm.trans g).neg
        rwa [Int.neg_neg] at g2
      · have g2 : Eqp (quot U V * quot U V ^ Q4) (-quot U V) := g
        have g3 := g2.neg
        rw [Int.neg_neg] at g3
        exact h.trans g3
    rw [e1, e2]
    by_cases c1 : quot U V * quot U V ^ Q4 % p = quot U V % p
    · rw [decide_eq_true c1, cond_true, if_pos c1]
      exact ⟨even_ev r, rfl⟩
    · rw [decide_eq_false c1, cond_false, if_neg c1]
      by_cases c2 : quot U V * quot U V ^ Q4 % p = -quot U V % p
      · rw [decide_eq_true c2, cond_true, if_pos c2]
        exact ⟨even_ev ri, rfl⟩
      · rw [decide_eq_false c2, cond_false, if_neg c2]
        exact ⟨Ir0, rfl⟩
end Go.Proofs.Ytbnclikjbnfodaa
