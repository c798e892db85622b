/-
  A part of the groundwork of this seat's claims: an evaluator over the program, walks, and plain mathematics. Conditions: none.
-/
import Derived.Test.YtbnclikjbnfodaaZ15
/-
  Roots of quotients modulo p: what both sides come to. Conditions: none.
-/
namespace Go.Proofs.Ytbnclikjbnfodaa
open Go.Ev Go.Num

def E8 : Nat := 7237005577332262213973186563042994240829374041602535252466099000494570602493
def Q4 : Nat := 14474011154664524427946373126085988481658748083205070504932198000989141204987
theorem E8_Q4 : 2 * E8 + 1 = Q4 := by decide
theorem Q4_4 : 4 * Q4 = pN - 1 := by decide
theorem E8_8 : 8 * E8 + 4 = pN - 1 := by decide

/-- The same modulo p. -/
def Eqp (a b : Int) : Prop := a % p = b % p
theorem Eqp.refl (a : Int) : Eqp a a := rfl
theorem Eqp.of {a b : Int} (h : a = b) : Eqp a b := by rw [h]; rfl
theorem Eqp.symm {a b : Int} (h : Eqp a b) : Eqp b a := Eq.symm h
theorem Eqp.trans {a b c : Int} (h : Eqp a b) (h' : Eqp b c) : Eqp a c := Eq.trans h h'
theorem Eqp.mul {a b c d : Int} (h : Eqp a b) (h' : Eqp c d) : Eqp (a * c) (b * d) := by unfold Eqp at *; rw [← ml, ← mr, h, h', ml, mr]
theorem Eqp.add {a b c d : Int} (h : Eqp a b) (h' : Eqp c d) : Eqp (a + c) (b + d) := by unfold Eqp at *; rw [← al, ← ar, h, h', al, ar]
theorem Eqp.neg {a b : Int} (h : Eqp a b) : Eqp (-a) (-b) := by unfold Eqp at *; rw [← nm, h, nm]
theorem Eqp.pow {a b : Int} (h : Eqp a b) (n : Nat) : Eqp (a ^ n) (b ^ n) := by unfold Eqp at *; rw [← pow_emod', h, pow_emod']
theorem Eqp.mod (a : Int) : Eqp (a % p) a := me a
theorem fermE {X : Int} (hx : X % p ≠ 0) : Eqp (X ^ (pN - 1)) 1 := by unfold Eqp; rw [fermatI hx]; rfl
theorem fermK {X : Int} (hx : X % p ≠ 0) (k : Nat) : Eqp (X ^ ((pN - 1) * k)) 1 := by
  rw [Int.pow_mul]; exact ((fermE hx).pow k).trans (.of (Int.one_pow ..))

/-- The quotient. -/
def quot (U V : Int) : Int := U * V ^ (pN - 2)
theorem quot_mul {U V : Int} (hV : V % p ≠ 0) : Eqp (quot U V * V) U := by
  have h : Eqp (V * V ^ (pN - 2)) 1 := by unfold Eqp; rw [inv_mul hV]; rfl
  have e : quot U V * V = U * (V * V ^ (pN - 2)) := by unfold quot; grind
  rw [e]
  exact ((Eqp.refl U).mul h).trans (.of (Int.mul_one _))

/-- The program's root is the quotient's power (p + 3) / 8. -/
theorem root_same {U V : Int} (hV : V % p ≠ 0) : Eqp (U * (V * V * V) * (U * (V * V * V * (V * V * V)) * V) ^ E8) (quot U V ^ (E8 + 1)) := by
  have hq := quot_mul (U := U) hV
  generalize quot U V = X at *
  have h1 : Eqp (U * (V * V * V) * (U * (V * V * V * (V * V * V)) * V) ^ E8) (X * V * (V * V * V) * (X * V * (V * V * V * (V * V * V)) * V) ^ E8) :=
    (hq.symm.mul (.refl _)).mul (((hq.symm.mul (.refl _)).mul (.refl _)).pow _)
  refine h1.trans ?_
  have e : X * V * (V * V * V) * (X * V * (V * V * V * (V * V * V)) * V) ^ E8 = X ^ (E8 + 1) * V ^ (pN - 1) := by
    rw [← E8_8, show V ^ (8 * E8 + 4) = (V ^ 8) ^ E8 * V ^ 4 by rw [Int.pow_add, Int.pow_mul], show X ^ (E8 + 1) = X ^ E8 * X from Int.pow_succ .., show X * V * (V * V * V * (V * V * V)) * V = X * V ^ 8 by grind, Int.mul_pow]
    generalize X ^ E8 = A
    generalize (V ^ 8) ^ E8 = B
    grind
  rw [e]
  exact ((Eqp.refl _).mul (fermE hV)).trans (.of (Int.mul_one _))

/-- The square of the quotient's power. -/
theorem root_sq (X : Int) : X ^ (E8 + 1) * X ^ (E8 + 1) = X * X ^ Q4 := by
  rw [← E8_Q4, ← Int.pow_add, ← Int.pow_succ']
  exact congrArg (fun k : Nat => X ^ k) (by omega)

theorem eqp_iff_mul {A B V : Int} (hV : V % p ≠ 0) : Eqp (A * V) (B * V) ↔ Eqp A B := ⟨fun h => cancel hV h, fun h => h.mul (.refl V)⟩

/-- The test of the program and the test of the document. -/
theorem test1 {U V R : Int} (hV : V % p ≠ 0) (hR : Eqp R (quot U V ^ (E8 + 1))) : Eqp (V * (R * R)) U ↔ Eqp (quot U V * quot U V ^ Q4) (quot U V) := by
  have h1 : Eqp (V * (R * R)) (quot U V * quot U V ^ Q4 * V) := by
    have e : quot U V * quot U V ^ Q4 * V = V * (quot U V ^ (E8 + 1) * quot U V ^ (E8 + 1)) := by rw [root_sq]; grind
    rw [e]; exact (Eqp.refl V).mul (hR.mul hR)
  have hq := quot_mul (U := U) hV
  constructor
  · intro h
    exact (eqp_iff_mul hV).1 ((h1.symm.trans h).trans hq.symm)
  · intro h
    exact (h1.trans ((eqp_iff_mul hV).2 h)).trans hq
theorem test2 {U V R : Int} (hV : V % p ≠ 0) (hR : Eqp R (quot U V ^ (E8 + 1))) : Eqp (V * (R * R)) (-U) ↔ Eqp (quot U V * quot U V ^ Q4) (-quot U V) := by
  have h1 : Eqp (V * (R * R)) (quot U V * quot U V ^ Q4 * V) := by
    have e : quot U V * quot U V ^ Q4 * V = V * (quot U V ^ (E8 + 1) * quot U V ^ (E8 + 1)) := by rw [root_sq]; grind
    rw [e]; exact (Eqp.refl V).mul (hR.mul hR)
  have hq : Eqp (-quot U V * V) (-U) := by
    have := (quot_mul (U := U) hV).neg
    rwa [← Int.neg_mul] at this
  constructor
  · intro h
    exact (eqp_iff_mul hV).1 ((h1.symm.trans h).trans hq.symm)
  · intro h
    exact (h1.trans ((eqp_iff_mul hV).2 h)).trans hq

/-- The root of -1. -/
def I4 : Int := 2 ^ Q4
theorem two_sq (n : Nat) : (2 : Int) ^ n * 2 ^ n = 2 ^ (2 * n) := by rw [← Int.pow_add, show n + n = 2 * n by omega]
theorem pm_int {n : Nat} (h : n < 2 ^ 256) : (2 : Int) ^ n % p = ((pm pN 256 2 n : Nat) : Int) := by
  rw [pm_eq _ _ _ _ h, p_pN]
  push_cast
  rfl
theorem I4_sq : Eqp (I4 * I4) (-1) := by
  unfold Eqp I4
  rw [two_sq, pm_int (by decide)]
  decide +kernel

/-- An even one of a number and its negative, reduced. -/
def ev (Z : Int) : Int := if Z % p % 2 = 1 then -Z else Z
theorem select_ev {r : Nat → Int} {Z : Int} (h : Is r Z) : Is (selectF (isOddF r) (negF r) r) (ev Z) := by
  rw [isOdd_v h.u, h.v]
  unfold ev
  by_cases e : Z % p % 2 = 1
  · rw [if_pos e, e]
    exact (select_i (y := r) (negK h).u).to (negK h).v
  · rw [if_neg e, show (Z % p % 2 == 1) = false by simpa using e]
    exact (select_i' (x := negF r) h.u).to h.v
/-- The document's digits that mean Z. -/
def Ir (a : Nat → Int) (Z : Int) : Prop := v10 a = Z % p ∧ D10 a
theorem Ir.to {x : Nat → Int} {X Y : Int} (h : Ir x X) (e : Eqp X Y) : Ir x Y := ⟨by rw [h.1]; exact e, h.2⟩
theorem ofI {x : Nat → Int} (h : U5 x) : Ir (rOf x) (v5 x) := of_r h
theorem mulR {a b : Nat → Int} {X Y : Int} (ha : Ir a X) (hb : Ir b Y) : Ir (rMul a b) (X * Y) := by
  obtain ⟨h1, h2⟩ := mul_r ha.2 hb.2
  exact ⟨by rw [h1, ha.1, hb.1, ml, mr], h2⟩
theorem powR {a e : Nat → Int} {X : Int} {n : Nat} (ha : Ir a X) (he : B32 e) (hn : vb e = (n : Int)) : Ir (rPow a e) (X ^ n) := by
  obtain ⟨h1, h2⟩ := pow_r ha.2 he
  rw [hn, Int.toNat_natCast, ha.1, pow_emod'] at h1
  exact ⟨h1, h2⟩
theorem invR {a : Nat → Int} {X : Int} (ha : Ir a X) : Ir (rInvert a) (X ^ (pN - 2)) := by
  obtain ⟨h1, h2⟩ := inv_r ha.2
  rw [ha.1, pow_emod'] at h1
  exact ⟨h1, h2⟩
theorem smallR (n : Int) (h0 : 0 ≤ n) (h1 : n < 18446744073709551616) : Ir (rSmall n) n := by
  obtain ⟨s1, s2⟩ := small_r h0 h1
  exact ⟨by rw [s1]; exact (Int.emod_eq_of_lt h0 (by unfold p; omega)).symm, s2⟩
theorem even_ev {a : Nat → Int} {Z : Int} (h : Ir a Z) : Ir (rEven a) (ev Z) := by
  unfold rEven
  rw [rIsOddO_eq, rNegO_eq, rIsOdd_v, h.1]
  unfold ev
  by_cases e : Z % p % 2 = 1
  · rw [if_pos e, e]
    obtain ⟨h1, h2⟩ := neg_r h.2
    exact ⟨by show v10 (rNeg a) = _; rw [h1, h.1, nm], h2⟩
  · rw [if_neg e, show (Z % p % 2 == 1) = false by simpa using e]
    exact h
theorem eqR {a b : Nat → Int} {X Y : Int} (ha : Ir a X) (hb : Ir b Y) : eqN 10 a b = decide (X % p = Y % p) := by rw [eq10 ha.2 hb.2, ha.1, hb.1]
theorem isEI {x a : Nat → Int} {X Y : Int} (hx : Is x X) (ha : Ir a Y) (h : Eqp X Y) : isE x a = true := is_of hx.2 ha.2 (by rw [hx.1, ha.1]; exact h)

theorem pb1 : B32 (power255 253 15) := by unfold B32; decide
theorem pb1_v : vb (power255 253 15) = (E8 : Int) := by decide
theorem pb2 : B32 (power255 251 31) := by unfold B32; decide
theorem pb2_v : vb (power255 251 31) = (Q4 : Int) := by decide
theorem pb3 : B32 (rPower 254 15) := by unfold B32; decide
theorem pb3_v : vb (rPower 254 15) = ((E8 + 1 : Nat) : Int) := by decide
theorem pb4 : B32 (rPower 251 31) := by unfold B32; decide
theorem pb4_v : vb (rPower 251 31) = (Q4 : Int) := by decide

theorem Ir0 : Ir (fun _ => 0) 0 := ⟨v10_zero, D10_zero⟩
theorem Is0 : Is (fun _ => 0) 0 := ⟨v5_zero, R5_zero⟩

/-- What SqrtRatio says, in numbers. -/
def sqZ (U V : Int) : Int × Bool :=
  if V % p = 0 then (0, decide (U % p = 0))
  else if quot U V * quot U V ^ Q4 % p = quot U V % p then (ev (quot U V ^ (E8 + 1)), true)
  else if quot U V * quot U V ^ Q4 % p = -quot U V % p then (ev (quot U V ^ (E8 + 1) * I4), true)
  else (0, false)

theorem ev_eqp {A B : Int} (h : Eqp A B) : Eqp (ev A) (ev B) := by
  unfold ev
  rw [show A % p = B % p from h]
  split
  · exact h.neg
  · exact h

theorem sqrt_v {u y : Nat → Int} (hu : U5 u) (hy : U5 y) : Is (sqrtF u y).1 (sqZ (v5 u) (v5 y)).1 ∧ (sqrtF u y).2 = (sqZ (v5 u) (v5 y)).2 := by
  unfold sqrtF sqZ
  rw [isZeroFO_eq, equalFO_eq, mulFO_eq, squareFO_eq, powFO_eq, negFO_eq, selectFO_eq, isOddFO_eq, smallFO_eq, isZero_i hy rfl, isZero_i hu rfl]
  by_cases h0 : v5 y % p = 0
  · rw [decide_eq_true h0, cond_true, if_pos h0]
    exact ⟨Is0, rfl⟩
  · rw [decide_eq_false h0, cond_false, if_neg h0]
    have U : Is (reduceF u) (v5 u) := reduce_i hu
    have s2 := sq_i hy
    have v3 : Is (mulF (squareF y) y) (v5 y * v5 y * v5 y) := (mul_i s2.u hy).to (by rw [s2.1, ml])
    have s6 := sqK v3
    have w1 : Is (mulF u (squareF (mulF (squareF y) y))) (v5 u * (v5 y * v5 y * v5 y * (v5 y * v5 y * v5 y))) := (mul_i hu s6.u).to (by rw [s6.1, mr])
    have w2 : Is (mulF (mulF u (squareF (mulF (squareF y) y))) y) (v5 u * (v5 y * v5 y * v5 y * (v5 y * v5 y * v5 y)) * v5 y) := (mul_i w1.u hy).to (by rw [w1.1, ml])
    have pw := powK w2 pb1 pb1_v
    have uv : Is (mulF u (mulF (squareF y) y)) (v5 u * (v5 y * v5 y * v5 y)) := (mul_i hu v3.u).to (by rw [v3.1, mr])
    have r0 := (mulK uv pw).to (root_same (U := v5 u) h0)
    generalize mulF (mulF u (mulF (squareF y) y)) (powF (mulF (mulF u (squareF (mulF (squareF y) y))) y) (power255 253 15)) = r at *
    have rr := sqK r0
    have vr : Is (mulF y (squareF r)) (v5 y * (quot (v5 u) (v5 y) ^ (E8 + 1) * quot (v5 u) (v5 y) ^ (E8 + 1))) := (mul_i hy rr.u).to (by rw [rr.1, mr])
    have t1 := test1 (U := v5 u) h0 (.refl _)
    have t2 := test2 (U := v5 u) h0 (.refl _)
    unfold Eqp at t1 t2
    have e1 : equalF (mulF y (squareF r)) u = decide (quot (v5 u) (v5 y) * quot (v5 u) (v5 y) ^ Q4 % p = quot (v5 u) (v5 y) % p) := by
      rw [equal_v vr.u hu, vr.v]; exact decide_eq_decide.2 t1
    have e2 : equalF (mulF y (squareF r)) (negF u) = decide (quot (v5 u) (v5 y) * quot (v5 u) (v5 y) ^ Q4 % p = -quot (v5 u) (v5 y) % p) := by
      rw [equal_v vr.u (neg_i hu).u, vr.v, (neg_i hu).v]; exact decide_eq_decide.2 t2
    rw [e1, e2]
    by_cases c1 : quot (v5 u) (v5 y) * quot (v5 u) (v5 y) ^ Q4 % p = quot (v5 u) (v5 y) % p
    · rw [decide_eq_true c1, cond_true, if_pos c1]
      exact ⟨select_ev r0, rfl⟩
    · rw [decide_eq_false c1, cond_false, if_neg c1]
      by_cases c2 : quot (v5 u) (v5 y) * quot (v5 u) (v5 y) ^ Q4 % p = -quot (v5 u) (v5 y) % p
      · rw [decide_eq_true c2, cond_true, if_pos c2]
        exact ⟨select_ev (mulK r0 (powK (small_i 2 (by omega) (by omega)) pb2 pb2_v)), rfl⟩
      · rw [decide_eq_false c2, cond_false, if_neg c2]
        exact ⟨Is0, rfl⟩

theorem sqrt_r {a b : Nat → Int} {U V : Int} (ha : Ir a U) (hb : Ir b V) : Ir (rSqrt a b).1 (sqZ U V).1 ∧ (rSqrt a b).2 = (sqZ U V).2 := by
  have z : ∀ {a : Nat → Int} {X : Int}, Ir a X → rIsZero a = decide (X % p = 0) := fun h => by rw [rIsZero_v h.2, h.1]
  unfold rSqrt sqZ
  rw [rIsZeroO_eq, rMulO_eq, rPowO_eq, rInvertO_eq, rEvenO_eq, rSmallO_eq, z ha, z hb]
  by_cases h0 : V % p = 0
  · rw [decide_eq_true h0, cond_true, if_pos h0]
    exact ⟨Ir0, rfl⟩
  · rw [decide_eq_false h0, cond_false, if_neg h0]
    have x : Ir (rMul a (rInvert b)) (quot U V) := mulR ha (invR hb)
    generalize rMul a (rInvert b) = c at *
    have r := powR x pb3 pb3_v
    generalize rPow c (rPower 254 15) = r' at *
    have rr := mulR r r
    have i := powR (smallR 2 (by omega) (by omega)) pb4 pb4_v
    generalize rPow (rSmall 2) (rPower 251 31) = i' at *
    have ri := mulR r i
    generalize rMul r' i' = k at *
    have kk := mulR ri ri
    have e1 : eqN 10 (rMul r' r') c = decide (quot U V * quot U V ^ Q4 % p = quot U V % p) := by
      rw [eqR rr x, root_sq]
    have e2 : eqN 10 (rMul k k) c = decide (quot U V * quot U V ^ Q4 % p = -quot U V % p) := by
      rw [eqR kk x]
      have h : Eqp (quot U V ^ (E8 + 1) * 2 ^ Q4 * (quot U V ^ (E8 + 1) * 2 ^ Q4)) (-(quot U V * quot U V ^ Q4)) := by
        rw [← root_sq, show quot U V ^ (E8 + 1) * 2 ^ Q4 * (quot U V ^ (E8 + 1) * 2 ^ Q4) = quot U V ^ (E8 + 1) * quot U V ^ (E8 + 1) * (I4 * I4) by unfold I4; grind]
        exact ((Eqp.refl _).mul I4_sq).trans (.of (by grind))
      refine decide_eq_decide.2 ⟨fun g => ?_, fun g => ?_⟩
      · have g2 := (h.symm.trans g).neg
        rwa [Int.neg_neg] at g2
      · have g2 : Eqp (quot U V * quot U V ^ Q4) (-quot U V) := g
        have g3 := g2.neg
        rw [Int.neg_neg] at g3
        exact h.trans g3
    rw [e1, e2]
    by_cases c1 : quot U V * quot U V ^ Q4 % p = quot U V % p
    · rw [decide_eq_true c1, cond_true, if_pos c1]
      exact ⟨even_ev r, rfl⟩
    · rw [decide_eq_false c1, cond_false, if_neg c1]
      by_cases c2 : quot U V * quot U V ^ Q4 % p = -quot U V % p
      · rw [decide_eq_true c2, cond_true, if_pos c2]
        exact ⟨even_ev ri, rfl⟩
      · rw [decide_eq_false c2, cond_false, if_neg c2]
        exact ⟨Ir0, rfl⟩
end Go.Proofs.Ytbnclikjbnfodaa

/-
  FieldRoots answers true. Conditions: none.
-/
namespace Go.Proofs.Ytbnclikjbnfodaa
open Go.Ev Go.Num

theorem roots_true {u y : Nat → Int} (hu : U5 u) (hy : U5 y) : lawRoots u y = true := by
  obtain ⟨a1, a2⟩ := sqrt_v hu hy
  obtain ⟨b1, b2⟩ := sqrt_r (ofI hu) (ofI hy)
  unfold lawRoots
  rw [sqrtFO_eq, rSqrtO_eq, rOfO_eq, isEO_eq, a2, b2, isEI a1 b1 (.refl _)]
  simp
end Go.Proofs.Ytbnclikjbnfodaa

/-
  FieldSquares answers true. Conditions: none.
-/
namespace Go.Proofs.Ytbnclikjbnfodaa
open Go.Ev Go.Num

theorem ev_sq (Z : Int) : ev Z * ev Z = Z * Z := by unfold ev; split <;> grind
theorem ev_even (Z : Int) : ev Z % p % 2 = 0 := by
  unfold ev
  have h0 := Int.emod_nonneg Z (show p ≠ 0 by decide)
  have h1 := Int.emod_lt_of_pos Z (show 0 < p by decide)
  split
  · rename_i h
    have e : -Z % p = p - Z % p := by
      rw [← nm, ← Int.add_emod_right, show -(Z % p) + p = p - Z % p by omega]
      exact Int.emod_eq_of_lt (by omega) (by omega)
    rw [e]
    have : p % 2 = 1 := by decide
    omega
  · omega

theorem sq_ok {U V : Int} (hV : V % p ≠ 0) (h : (sqZ U V).2 = true) : Eqp (V * ((sqZ U V).1 * (sqZ U V).1)) U ∧ (sqZ U V).1 % p % 2 = 0 := by
  have hq := quot_mul (U := U) hV
  unfold sqZ at h ⊢
  rw [if_neg hV] at h ⊢
  by_cases c1 : quot U V * quot U V ^ Q4 % p = quot U V % p
  · rw [if_pos c1]
    refine ⟨?_, ev_even _⟩
    dsimp only
    rw [ev_sq, root_sq, Int.mul_comm]
    exact (Eqp.mul (show Eqp _ _ from c1) (.refl V)).trans hq
  · rw [if_neg c1] at h ⊢
    by_cases c2 : quot U V * quot U V ^ Q4 % p = -quot U V % p
    · rw [if_pos c2]
      refine ⟨?_, ev_even _⟩
      dsimp only
      rw [ev_sq, show quot U V ^ (E8 + 1) * I4 * (quot U V ^ (E8 + 1) * I4) = quot U V ^ (E8 + 1) * quot U V ^ (E8 + 1) * (I4 * I4) by grind, root_sq, Int.mul_comm]
      have h2 : Eqp (quot U V * quot U V ^ Q4 * (I4 * I4)) (quot U V) := ((Eqp.mul (show Eqp _ _ from c2) I4_sq)).trans (.of (by grind))
      exact (h2.mul (.refl V)).trans hq
    · rw [if_neg c2] at h
      exact absurd h (by simp)

theorem sq_no {U V : Int} (hV : V % p ≠ 0) (h : (sqZ U V).2 = false) : (sqZ U V).1 = 0 ∧ Eqp ((U * V) ^ (2 * Q4)) (-1) := by
  have hq := quot_mul (U := U) hV
  unfold sqZ at h ⊢
  rw [if_neg hV] at h ⊢
  by_cases c1 : quot U V * quot U V ^ Q4 % p = quot U V % p
  · rw [if_pos c1] at h; exact absurd h (by simp)
  rw [if_neg c1] at h ⊢
  by_cases c2 : quot U V * quot U V ^ Q4 % p = -quot U V % p
  · rw [if_pos c2] at h; exact absurd h (by simp)
  rw [if_neg c2]
  refine ⟨rfl, ?_⟩
  generalize quot U V = X at *
  have hX : X % p ≠ 0 := by
    intro hX
    apply c1
    have : Eqp X 0 := hX
    exact ((this.mul (.refl (X ^ Q4))).trans (.of (Int.zero_mul _))).trans this.symm
  have h1 : Eqp ((U * V) ^ (2 * Q4)) (X ^ (2 * Q4)) := by
    have e : (X * V * V) ^ (2 * Q4) = X ^ (2 * Q4) * V ^ (pN - 1) := by
      rw [show X * V * V = X * V ^ 2 by grind, Int.mul_pow, ← Int.pow_mul, ← Q4_4, show 2 * (2 * Q4) = 4 * Q4 by omega]
    refine (((hq.symm.mul (.refl V)).pow (2 * Q4)).trans (.of e)).trans ?_
    exact ((Eqp.refl _).mul (fermE hV)).trans (.of (Int.mul_one _))
  refine h1.trans ?_
  have h4 : (X ^ (2 * Q4)) * (X ^ (2 * Q4)) % p = 1 * 1 % p := by
    rw [← Int.pow_add, show 2 * Q4 + 2 * Q4 = pN - 1 by rw [← Q4_4]; omega]
    exact fermE hX
  rcases sq_eq h4 with h5 | h5
  · exfalso
    have h6 : X ^ Q4 * X ^ Q4 % p = 1 * 1 % p := by
      rw [← Int.pow_add, show Q4 + Q4 = 2 * Q4 by omega]; exact h5
    rcases sq_eq h6 with h7 | h7
    · exact c1 ((Eqp.mul (.refl X) (show Eqp _ _ from h7)).trans (.of (Int.mul_one _)))
    · exact c2 ((Eqp.mul (.refl X) (show Eqp _ _ from h7)).trans (.of (by omega)))
  · exact h5

theorem sq_square {U V A : Int} (hV : V % p ≠ 0) (h : Eqp U (V * (A * A))) : (sqZ U V).2 = true := by
  have hq := quot_mul (U := U) hV
  have hx : Eqp (quot U V) (A * A) := (eqp_iff_mul hV).1 ((hq.trans h).trans (.of (Int.mul_comm _ _)))
  unfold sqZ
  rw [if_neg hV]
  by_cases c1 : quot U V * quot U V ^ Q4 % p = quot U V % p
  · rw [if_pos c1]
  rw [if_neg c1]
  by_cases c2 : quot U V * quot U V ^ Q4 % p = -quot U V % p
  · rw [if_pos c2]
  exfalso
  generalize quot U V = X at *
  by_cases hA : A % p = 0
  · have hX : Eqp X 0 := hx.trans (((show Eqp A 0 from hA).mul (.refl A)).trans (.of (Int.zero_mul _)))
    exact c1 (((hX.mul (.refl (X ^ Q4))).trans (.of (Int.zero_mul _))).trans hX.symm)
  · have h4 : (A ^ (2 * Q4)) * (A ^ (2 * Q4)) % p = 1 * 1 % p := by
      rw [← Int.pow_add, show 2 * Q4 + 2 * Q4 = pN - 1 by rw [← Q4_4]; omega]
      exact fermE hA
    have h5 : Eqp (X ^ Q4) (A ^ (2 * Q4)) := (hx.pow Q4).trans (.of (by rw [Int.pow_mul, show A ^ 2 = A * A by grind]))
    rcases sq_eq h4 with h6 | h6
    · exact c1 ((Eqp.mul (.refl X) (h5.trans (show Eqp _ _ from h6))).trans (.of (Int.mul_one _)))
    · exact c2 ((Eqp.mul (.refl X) (h5.trans (show Eqp _ _ from h6))).trans (.of (by omega)))

theorem powH : B32 (lawPow 246 63) := by unfold B32; decide
theorem powH_v : vb (lawPow 246 63) = ((2 * Q4 : Nat) : Int) := by decide

theorem even_i {x : Nat → Int} {Z : Int} (h : Is x Z) (e : Z % p % 2 = 0) : isOddF x = false := by rw [isOdd_v h.u, h.v, e]; rfl

theorem squares_true {u y : Nat → Int} (hu : U5 u) (hy : U5 y) : lawSquares u y = true := by
  obtain ⟨a1, a2⟩ := sqrt_v hu hy
  have su := sq_i hu
  have m := mul_i hy su.u
  obtain ⟨b1, b2⟩ := sqrt_v m.u hy
  have hs := select_i (y := y) hu
  unfold lawSquares
  rw [isZeroFO_eq, sqrtFO_eq, countsBO_eq, counts_true, isOddFO_eq, mulFO_eq, squareFO_eq, selectFO_eq, powFO_eq, negFO_eq, smallFO_eq, isZero_i hy rfl, isZero_i hu rfl, isZero_i a1.u a1.v, a2, b2]
  by_cases h0 : v5 y % p = 0
  · rw [decide_eq_true h0, cond_true]
    unfold sqZ
    rw [if_pos h0]
    simp
  · rw [decide_eq_false h0, cond_false]
    have hm : Eqp (v5 (mulF y (squareF u))) (v5 y * (v5 u * v5 u)) := by
      have : v5 (mulF y (squareF u)) % p = _ := m.v
      rw [su.1, mr] at this
      exact this
    have ok := sq_square h0 hm
    obtain ⟨t1, t2⟩ := sq_ok h0 ok
    rw [ok]
    have hz : Eqp ((sqZ (v5 (mulF y (squareF u))) (v5 y)).1 * (sqZ (v5 (mulF y (squareF u))) (v5 y)).1) (v5 u * v5 u) := by
      refine (eqp_iff_mul h0).1 ?_
      rw [Int.mul_comm, Int.mul_comm (v5 u * v5 u)]
      exact t1.trans hm
    rw [even_i b1 t2, b1.eqn hs, b1.eqn (neg_i hu)]
    have tail : (cond true (cond (decide ((sqZ (v5 (mulF y (squareF u))) (v5 y)).1 % p = v5 u % p)) (cond (!false) true false) (cond (decide ((sqZ (v5 (mulF y (squareF u))) (v5 y)).1 % p = -v5 u % p)) (cond (!false) true false) false)) false) = true := by
      rcases sq_eq hz with h | h
      · rw [decide_eq_true h]; rfl
      · rw [decide_eq_true h]; simp
    rw [tail]
    cases hok : (sqZ (v5 u) (v5 y)).2 with
    | true =>
      obtain ⟨r1, r2⟩ := sq_ok h0 hok
      have rr := sqK a1
      have e1 : eqN 5 (mulF y (squareF (sqrtF u y).1)) (selectF true u y) = true := by
        rw [((mul_i hy rr.u).to (Y := v5 y * ((sqZ (v5 u) (v5 y)).1 * (sqZ (v5 u) (v5 y)).1)) (by rw [rr.1, mr])).eqn hs]
        exact decide_eq_true r1
      rw [even_i a1 r2, e1]
      rfl
    | false =>
      obtain ⟨r1, r2⟩ := sq_no h0 hok
      have mm := mul_i hu hy
      have e1 : eqN 5 (powF (mulF u y) (lawPow 246 63)) (negF (smallF 1)) = true := by
        rw [(powK mm powH powH_v).eqn (negK (small_i 1 (by omega) (by omega)))]
        exact decide_eq_true r2
      rw [e1, r1]
      rfl
end Go.Proofs.Ytbnclikjbnfodaa

/-
  The numbers modulo p as a ring of their own, and the curve's group over them. Conditions: none.
-/
namespace Go.Proofs.Ytbnclikjbnfodaa
set_option maxRecDepth 100000
open Go.Ev Go.Num

/-- Numbers modulo p. -/
abbrev K := Fin 57896044618658097711785492504343953926634992332820282019728792003956564819949
def kk (n : Int) : K := ⟨(n % p).toNat, by unfold p; omega⟩
theorem kk_val (n : Int) : ((kk n).val : Int) = n % p := by unfold kk p; simp only; omega
theorem kk_iff {a b : Int} : kk a = kk b ↔ a % p = b % p := by
  constructor
  · intro h
    rw [← kk_val, ← kk_val, h]
  · intro h
    exact Fin.ext (by have := kk_val a; have := kk_val b; omega)
theorem kk_of (k : K) : kk (k.val : Int) = k := Fin.ext (by have := kk_val (k.val : Int); have := k.isLt; unfold p at *; omega)
theorem kk_add (a b : Int) : kk (a + b) = kk a + kk b := Fin.ext (by
  rw [Fin.val_add]
  have := kk_val a; have := kk_val b; have := kk_val (a + b)
  unfold p at *; omega)
theorem kk_mul (a b : Int) : kk (a * b) = kk a * kk b := Fin.ext (by
  rw [Fin.val_mul]
  have h1 := kk_val a; have h2 := kk_val b; have h := kk_val (a * b)
  rw [Int.mul_emod, ← h1, ← h2, ← Int.natCast_mul] at h
  generalize (kk a).val * (kk b).val = m at *
  unfold p at *; omega)
theorem kk_0 : kk 0 = 0 := rfl
theorem kk_1 : kk 1 = 1 := rfl
theorem kk_neg (a : Int) : kk (-a) = -kk a := by
  have h : kk (-a) + kk a = 0 := by rw [← kk_add, Int.add_left_neg]; rfl
  grind -lia
theorem kk_sub (a b : Int) : kk (a - b) = kk a - kk b := by
  have h : kk (a - b) + kk b = kk a := by rw [← kk_add, Int.sub_add_cancel]
  grind -lia

theorem k_mul_zero {a b : K} (h : a * b = 0) : a = 0 ∨ b = 0 := by
  rw [← kk_of a, ← kk_of b, ← kk_mul, ← kk_0, kk_iff] at h
  rcases mul_zero' h with h | h
  · exact .inl (by rw [← kk_of a, ← kk_0]; exact kk_iff.2 h)
  · exact .inr (by rw [← kk_of b, ← kk_0]; exact kk_iff.2 h)
theorem k_mul_ne {a b : K} (ha : a ≠ 0) (hb : b ≠ 0) : a * b ≠ 0 := fun h => (k_mul_zero h).elim ha hb
theorem k_cancel {a b c : K} (hc : c ≠ 0) (h : a * c = b * c) : a = b := by
  have h' : (a - b) * c = 0 := by grind -lia
  have := (k_mul_zero h').resolve_right hc
  grind -lia
/-- The inverse; of 0: 0. -/
def ki (k : K) : K := kk ((k.val : Int) ^ (pN - 2))
theorem ki_mul {k : K} (h : k ≠ 0) : k * ki k = 1 := by
  have e : k * ki k = kk ((k.val : Int) * (k.val : Int) ^ (pN - 2)) := by rw [kk_mul, kk_of]; rfl
  rw [e, ← kk_1, kk_iff, inv_mul]
  · rfl
  · intro h0
    apply h
    rw [← kk_of k, ← kk_0, kk_iff]; exact h0
theorem kk_inv (a : Int) : kk (a ^ (pN - 2)) = ki (kk a) := by
  unfold ki
  rw [kk_iff, kk_val, pow_emod']
theorem ki_ne {k : K} (h : k ≠ 0) : ki k ≠ 0 := fun h0 => by
  have := ki_mul h
  rw [h0] at this
  exact absurd this (by rw [Fin.mul_zero]; decide)

/-! ### The curve -/
/-- The curve's number. -/
def dI : Int := 37095705934669439343138083508754565189542113879843219016388785533085940283555
noncomputable def D : K := kk dI
theorem dI_pow : dI ^ (2 * Q4) % p = p - 1 := by
  rw [show dI = ((dI.toNat : Nat) : Int) from rfl]
  have h := pm_eq pN 256 dI.toNat (2 * Q4) (by decide)
  rw [p_pN, ← Int.natCast_pow, ← Int.natCast_emod, ← h]
  decide +kernel
theorem D_ne : D ≠ 0 := by
  unfold D
  rw [← kk_0, Ne, kk_iff]
  decide
/-- It is no square. -/
theorem D_sq (k : K) : k * k ≠ D := by
  intro h
  unfold D at h
  rw [← kk_of k, ← kk_mul, kk_iff] at h
  have h2 := dI_pow
  rw [← pow_emod', ← h, pow_emod', show (k.val : Int) * k.val = (k.val : Int) ^ 2 by grind, ← Int.pow_mul, show 2 * (2 * Q4) = pN - 1 from rfl] at h2
  have hk : (k.val : Int) % p ≠ 0 := fun h0 => by
    apply D_ne
    unfold D
    rw [← kk_0, kk_iff, ← h, Int.mul_emod, h0]; rfl
  rw [fermatI hk] at h2
  exact absurd h2 (by decide)
/-- A root of -1. -/
noncomputable def I : K := kk I4
theorem I_sq : I * I = -1 := by
  unfold I
  rw [← kk_mul, kk_iff.2 I4_sq, kk_neg]; rfl

def OnK (x y : K) : Prop := y * y - x * x = 1 + D * x * x * y * y
/-- No denominator of a sum is 0. -/
theorem full' {d i x1 y1 x2 y2 e : K} (hi : i * i = -1) (hd : ∀ k : K, k * k ≠ d) (h1 : y1 * y1 - x1 * x1 = 1 + d * x1 * x1 * y1 * y1) (h2 : y2 * y2 - x2 * x2 = 1 + d * x2 * x2 * y2 * y2) (he : e = d * x1 * x2 * y1 * y2) : e * e ≠ 1 := by
  intro h
  have key1 : d * ((x1 * y1) * (i * x2 + y2)) * ((x1 * y1) * (i * x2 + y2)) = (i * x1 + e * y1) * (i * x1 + e * y1) := by grind -lia
  have key2 : d * ((x1 * y1) * (i * x2 - y2)) * ((x1 * y1) * (i * x2 - y2)) = (i * x1 - e * y1) * (i * x1 - e * y1) := by grind -lia
  have h0 : x1 * y1 ≠ 0 := by
    intro h0
    have : e = 0 := by grind -lia
    rw [this] at h
    exact absurd h (by simp)
  have sq : ∀ a b : K, d * a * a = b * b → a ≠ 0 → False := by
    intro a b hab ha
    have hw := ki_mul ha
    generalize ki a = w at hw
    refine hd (b * w) ?_
    grind -lia
  by_cases c1 : i * x2 + y2 = 0
  · by_cases c2 : i * x2 - y2 = 0
    · have hy : (2 : K) * y2 = 0 := by grind -lia
      have hy2 := (k_mul_zero hy).resolve_left (by decide)
      rw [hy2] at he
      have : e = 0 := by grind -lia
      rw [this] at h
      exact absurd h (by simp)
    · exact sq _ _ key2 (k_mul_ne h0 c2)
  · exact sq _ _ key1 (k_mul_ne h0 c1)
theorem ne_of_sq {e : K} (h : e * e ≠ 1) : 1 + e ≠ 0 ∧ 1 - e ≠ 0 := by
  constructor
  · intro h'; apply h; grind -lia
  · intro h'; apply h; grind -lia
theorem full {x1 y1 x2 y2 : K} (h1 : OnK x1 y1) (h2 : OnK x2 y2) : 1 + D * x1 * x2 * y1 * y2 ≠ 0 ∧ 1 - D * x1 * x2 * y1 * y2 ≠ 0 :=
  ne_of_sq (full' I_sq D_sq h1 h2 rfl)
theorem closed' {d x1 y1 x2 y2 e X Y : K} (h1 : y1 * y1 - x1 * x1 = 1 + d * x1 * x1 * y1 * y1) (h2 : y2 * y2 - x2 * x2 = 1 + d * x2 * x2 * y2 * y2) (he : e = d * x1 * x2 * y1 * y2)
    (hX : X * (1 + e) = x1 * y2 + x2 * y1) (hY : Y * (1 - e) = y1 * y2 + x1 * x2) :
    (Y * Y - X * X) * ((1 - e) * (1 + e) * ((1 - e) * (1 + e))) = (1 + d * X * X * Y * Y) * ((1 - e) * (1 + e) * ((1 - e) * (1 + e))) := by
  have e1 : (Y * Y - X * X) * ((1 - e) * (1 + e) * ((1 - e) * (1 + e))) = (Y * (1 - e)) * (Y * (1 - e)) * (1 + e) * (1 + e) - (X * (1 + e)) * (X * (1 + e)) * (1 - e) * (1 - e) := by grind -lia
  have e2 : (1 + d * X * X * Y * Y) * ((1 - e) * (1 + e) * ((1 - e) * (1 + e))) = (1 - e * e) * (1 - e * e) + d * (Y * (1 - e)) * (Y * (1 - e)) * (X * (1 + e)) * (X * (1 + e)) := by grind -lia
  rw [e1, e2, hX, hY]
  clear e1 e2 hX hY
  grind -lia
theorem comb3 {z a b c u w t : K} (h : z = a * u + b * w + c * t) (hu : u = 0) (hw : w = 0) (ht : t = 0) : z = 0 := by
  subst hu hw ht
  grind -lia
set_option maxHeartbeats 4000000 in
theorem assoc1 {d x1 y1 x2 y2 x3 y3 : K} (h1 : y1 * y1 - x1 * x1 = 1 + d * x1 * x1 * y1 * y1) (h2 : y2 * y2 - x2 * x2 = 1 + d * x2 * x2 * y2 * y2) (h3 : y3 * y3 - x3 * x3 = 1 + d * x3 * x3 * y3 * y3) :
    ((x1*y2 + x2*y1)*y3*(1-(d*x1*x2*y1*y2)) + x3*(y1*y2 + x1*x2)*(1+(d*x1*x2*y1*y2))) * ((1-(d*x2*x3*y2*y3))*(1+(d*x2*x3*y2*y3)) + d*(x2*y3 + x3*y2)*(y2*y3 + x2*x3)*x1*y1) - (x1*(y2*y3 + x2*x3)*(1+(d*x2*x3*y2*y3)) + (x2*y3 + x3*y2)*y1*(1-(d*x2*x3*y2*y3))) * ((1-(d*x1*x2*y1*y2))*(1+(d*x1*x2*y1*y2)) + d*(x1*y2 + x2*y1)*(y1*y2 + x1*x2)*x3*y3) = 0 := by
  have e1 : y1*y1 - x1*x1 - 1 - d*x1*x1*y1*y1 = 0 := by grind -lia
  have e2 : y2*y2 - x2*x2 - 1 - d*x2*x2*y2*y2 = 0 := by grind -lia
  have e3 : y3*y3 - x3*x3 - 1 - d*x3*x3*y3*y3 = 0 := by grind -lia
  have key : ((x1*y2 + x2*y1)*y3*(1-(d*x1*x2*y1*y2)) + x3*(y1*y2 + x1*x2)*(1+(d*x1*x2*y1*y2))) * ((1-(d*x2*x3*y2*y3))*(1+(d*x2*x3*y2*y3)) + d*(x2*y3 + x3*y2)*(y2*y3 + x2*x3)*x1*y1) - (x1*(y2*y3 + x2*x3)*(1+(d*x2*x3*y2*y3)) + (x2*y3 + x3*y2)*y1*(1-(d*x2*x3*y2*y3))) * ((1-(d*x1*x2*y1*y2))*(1+(d*x1*x2*y1*y2)) + d*(x1*y2 + x2*y1)*(y1*y2 + x1*x2)*x3*y3) = ((-1*d*y1*x2*y2*y2*y2*y2*x3*x3*y3) + (-1*d*y1*x2*x2*y2*y2*y2*x3) + (-1*d*y1*x2*x2*y2*y2*y2*x3*x3*x3) + (-1*d*y1*x2*x2*x2*y2*y2*y3) + d*y1*x2*x2*x2*y2*y2*y3*y3*y3 + d*y1*x2*x2*x2*x2*y2*x3*y3*y3 + d*x1*x2*y2*y2*y2*y2*x3*y3*y3 + (-1*d*x1*x2*x2*y2*y2*y2*y3) + d*x1*x2*x2*y2*y2*y2*y3*y3*y3 + (-1*d*x1*x2*x2*x2*y2*y2*x3) + (-1*d*x1*x2*x2*x2*y2*y2*x3*x3*x3) + (-1*d*x1*x2*x2*x2*x2*y2*x3*x3*y3) + d*d*y1*x2*x2*x2*y2*y2*y2*y2*x3*x3*y3 + d*d*y1*x2*x2*x2*x2*y2*y2*y2*x3*y3*y3 + (-1*d*d*x1*x2*x2*x2*y2*y2*y2*y2*x3*y3*y3) + (-1*d*d*x1*x2*x2*x2*x2*y2*y2*y2*x3*x3*y3))*(y1*y1 - x1*x1 - 1 - d*x1*x1*y1*y1) + (y1*y2*x3 + (-1*y1*y2*x3*y3*y3) + y1*y2*x3*x3*x3 + y1*x2*y3 + (-1*y1*x2*y3*y3*y3) + y1*x2*x3*x3*y3 + (-1*y1*y1*y1*y2*x3) + y1*y1*y1*y2*x3*y3*y3 + (-1*y1*y1*y1*y2*x3*x3*x3) + (-1*y1*y1*y1*x2*y3) + y1*y1*y1*x2*y3*y3*y3 + (-1*y1*y1*y1*x2*x3*x3*y3) + x1*y2*y3 + (-1*x1*y2*y3*y3*y3) + x1*y2*x3*x3*y3 + x1*x2*x3 + (-1*x1*x2*x3*y3*y3) + x1*x2*x3*x3*x3 + (-1*x1*y1*y1*y2*y3) + x1*y1*y1*y2*y3*y3*y3 + (-1*x1*y1*y1*y2*x3*x3*y3) + (-1*x1*y1*y1*x2*x3) + x1*y1*y1*x2*x3*y3*y3 + (-1*x1*y1*y1*x2*x3*x3*x3) + x1*x1*y1*y2*x3 + (-1*x1*x1*y1*y2*x3*y3*y3) + x1*x1*y1*y2*x3*x3*x3 + x1*x1*y1*x2*y3 + (-1*x1*x1*y1*x2*y3*y3*y3) + x1*x1*y1*x2*x3*x3*y3 + x1*x1*x1*y2*y3 + (-1*x1*x1*x1*y2*y3*y3*y3) + x1*x1*x1*y2*x3*x3*y3 + x1*x1*x1*x2*x3 + (-1*x1*x1*x1*x2*x3*y3*y3) + x1*x1*x1*x2*x3*x3*x3 + d*y1*y2*x3*x3*x3*y3*y3 + d*y1*x2*x3*x3*y3*y3*y3 + (-1*d*y1*x2*y2*y2*x3*x3*y3) + (-1*d*y1*x2*x2*y2*x3*y3*y3) + (-1*d*y1*y1*y1*y2*x3*x3*x3*y3*y3) + (-1*d*y1*y1*y1*x2*x3*x3*y3*y3*y3) + d*y1*y1*y1*x2*y2*y2*x3*x3*y3 + d*y1*y1*y1*x2*x2*y2*x3*y3*y3 + d*x1*y2*x3*x3*y3*y3*y3 + d*x1*x2*x3*x3*x3*y3*y3 + d*x1*x2*y2*y2*x3*y3*y3 + d*x1*x2*x2*y2*x3*x3*y3 + (-1*d*x1*y1*y1*y2*x3*x3*y3*y3*y3) + (-1*d*x1*y1*y1*x2*x3*x3*x3*y3*y3) + (-1*d*x1*y1*y1*x2*y2*y2*x3*y3*y3) + (-1*d*x1*y1*y1*x2*x2*y2*x3*x3*y3) + d*x1*x1*y1*y2*x3*x3*x3*y3*y3 + d*x1*x1*y1*x2*x3*x3*y3*y3*y3 + (-1*d*x1*x1*y1*x2*y2*y2*x3*x3*y3) + (-1*d*x1*x1*y1*x2*x2*y2*x3*y3*y3) + d*x1*x1*x1*y2*x3*x3*y3*y3*y3 + d*x1*x1*x1*x2*x3*x3*x3*y3*y3 + d*x1*x1*x1*x2*y2*y2*x3*y3*y3 + d*x1*x1*x1*x2*x2*y2*x3*x3*y3 + d*d*x1*y1*y1*x2*y2*y2*x3*x3*x3*y3*y3 + (-1*d*d*x1*y1*y1*x2*x2*y2*x3*x3*y3*y3*y3) + (-1*d*d*x1*x1*y1*x2*y2*y2*x3*x3*y3*y3*y3) + d*d*x1*x1*y1*x2*x2*y2*x3*x3*x3*y3*y3)*(y2*y2 - x2*x2 - 1 - d*x2*x2*y2*y2) + ((-1*y1*y2*x3) + y1*y2*y2*y2*x3 + (-1*y1*x2*y3) + y1*x2*y2*y2*y3 + (-1*y1*x2*x2*y2*x3) + (-1*y1*x2*x2*x2*y3) + y1*y1*y1*y2*x3 + (-1*y1*y1*y1*y2*y2*y2*x3) + y1*y1*y1*x2*y3 + (-1*y1*y1*y1*x2*y2*y2*y3) + y1*y1*y1*x2*x2*y2*x3 + y1*y1*y1*x2*x2*x2*y3 + (-1*x1*y2*y3) + x1*y2*y2*y2*y3 + (-1*x1*x2*x3) + x1*x2*y2*y2*x3 + (-1*x1*x2*x2*y2*y3) + (-1*x1*x2*x2*x2*x3) + x1*y1*y1*y2*y3 + (-1*x1*y1*y1*y2*y2*y2*y3) + x1*y1*y1*x2*x3 + (-1*x1*y1*y1*x2*y2*y2*x3) + x1*y1*y1*x2*x2*y2*y3 + x1*y1*y1*x2*x2*x2*x3 + (-1*x1*x1*y1*y2*x3) + x1*x1*y1*y2*y2*y2*x3 + (-1*x1*x1*y1*x2*y3) + x1*x1*y1*x2*y2*y2*y3 + (-1*x1*x1*y1*x2*x2*y2*x3) + (-1*x1*x1*y1*x2*x2*x2*y3) + (-1*x1*x1*x1*y2*y3) + x1*x1*x1*y2*y2*y2*y3 + (-1*x1*x1*x1*x2*x3) + x1*x1*x1*x2*y2*y2*x3 + (-1*x1*x1*x1*x2*x2*y2*y3) + (-1*x1*x1*x1*x2*x2*x2*x3) + (-1*d*x1*y1*y1*x2*y2*y2*x3) + d*x1*y1*y1*x2*x2*y2*y3 + d*x1*x1*y1*x2*y2*y2*y3 + (-1*d*x1*x1*y1*x2*x2*y2*x3))*(y3*y3 - x3*x3 - 1 - d*x3*x3*y3*y3) := by
    clear h1 h2 h3 e1 e2 e3
    grind -lia
  exact comb3 key e1 e2 e3
set_option maxHeartbeats 4000000 in
theorem assoc2 {d x1 y1 x2 y2 x3 y3 : K} (h1 : y1 * y1 - x1 * x1 = 1 + d * x1 * x1 * y1 * y1) (h2 : y2 * y2 - x2 * x2 = 1 + d * x2 * x2 * y2 * y2) (h3 : y3 * y3 - x3 * x3 = 1 + d * x3 * x3 * y3 * y3) :
    ((y1*y2 + x1*x2)*y3*(1+(d*x1*x2*y1*y2)) + (x1*y2 + x2*y1)*x3*(1-(d*x1*x2*y1*y2))) * ((1-(d*x2*x3*y2*y3))*(1+(d*x2*x3*y2*y3)) - d*(x2*y3 + x3*y2)*(y2*y3 + x2*x3)*x1*y1) - (y1*(y2*y3 + x2*x3)*(1+(d*x2*x3*y2*y3)) + x1*(x2*y3 + x3*y2)*(1-(d*x2*x3*y2*y3))) * ((1-(d*x1*x2*y1*y2))*(1+(d*x1*x2*y1*y2)) - d*(x1*y2 + x2*y1)*(y1*y2 + x1*x2)*x3*y3) = 0 := by
  have e1 : y1*y1 - x1*x1 - 1 - d*x1*x1*y1*y1 = 0 := by grind -lia
  have e2 : y2*y2 - x2*x2 - 1 - d*x2*x2*y2*y2 = 0 := by grind -lia
  have e3 : y3*y3 - x3*x3 - 1 - d*x3*x3*y3*y3 = 0 := by grind -lia
  have key : ((y1*y2 + x1*x2)*y3*(1+(d*x1*x2*y1*y2)) + (x1*y2 + x2*y1)*x3*(1-(d*x1*x2*y1*y2))) * ((1-(d*x2*x3*y2*y3))*(1+(d*x2*x3*y2*y3)) - d*(x2*y3 + x3*y2)*(y2*y3 + x2*x3)*x1*y1) - (y1*(y2*y3 + x2*x3)*(1+(d*x2*x3*y2*y3)) + x1*(x2*y3 + x3*y2)*(1-(d*x2*x3*y2*y3))) * ((1-(d*x1*x2*y1*y2))*(1+(d*x1*x2*y1*y2)) - d*(x1*y2 + x2*y1)*(y1*y2 + x1*x2)*x3*y3) = (d*y1*x2*y2*y2*y2*y2*x3*y3*y3 + (-1*d*y1*x2*x2*y2*y2*y2*y3) + d*y1*x2*x2*y2*y2*y2*y3*y3*y3 + (-1*d*y1*x2*x2*x2*y2*y2*x3) + (-1*d*y1*x2*x2*x2*y2*y2*x3*x3*x3) + (-1*d*y1*x2*x2*x2*x2*y2*x3*x3*y3) + (-1*d*x1*x2*y2*y2*y2*y2*x3*x3*y3) + (-1*d*x1*x2*x2*y2*y2*y2*x3) + (-1*d*x1*x2*x2*y2*y2*y2*x3*x3*x3) + (-1*d*x1*x2*x2*x2*y2*y2*y3) + d*x1*x2*x2*x2*y2*y2*y3*y3*y3 + d*x1*x2*x2*x2*x2*y2*x3*y3*y3 + (-1*d*d*y1*x2*x2*x2*y2*y2*y2*y2*x3*y3*y3) + (-1*d*d*y1*x2*x2*x2*x2*y2*y2*y2*x3*x3*y3) + d*d*x1*x2*x2*x2*y2*y2*y2*y2*x3*x3*y3 + d*d*x1*x2*x2*x2*x2*y2*y2*y2*x3*y3*y3)*(y1*y1 - x1*x1 - 1 - d*x1*x1*y1*y1) + (y1*y2*y3 + (-1*y1*y2*y3*y3*y3) + y1*y2*x3*x3*y3 + y1*x2*x3 + (-1*y1*x2*x3*y3*y3) + y1*x2*x3*x3*x3 + (-1*y1*y1*y1*y2*y3) + y1*y1*y1*y2*y3*y3*y3 + (-1*y1*y1*y1*y2*x3*x3*y3) + (-1*y1*y1*y1*x2*x3) + y1*y1*y1*x2*x3*y3*y3 + (-1*y1*y1*y1*x2*x3*x3*x3) + x1*y2*x3 + (-1*x1*y2*x3*y3*y3) + x1*y2*x3*x3*x3 + x1*x2*y3 + (-1*x1*x2*y3*y3*y3) + x1*x2*x3*x3*y3 + (-1*x1*y1*y1*y2*x3) + x1*y1*y1*y2*x3*y3*y3 + (-1*x1*y1*y1*y2*x3*x3*x3) + (-1*x1*y1*y1*x2*y3) + x1*y1*y1*x2*y3*y3*y3 + (-1*x1*y1*y1*x2*x3*x3*y3) + x1*x1*y1*y2*y3 + (-1*x1*x1*y1*y2*y3*y3*y3) + x1*x1*y1*y2*x3*x3*y3 + x1*x1*y1*x2*x3 + (-1*x1*x1*y1*x2*x3*y3*y3) + x1*x1*y1*x2*x3*x3*x3 + x1*x1*x1*y2*x3 + (-1*x1*x1*x1*y2*x3*y3*y3) + x1*x1*x1*y2*x3*x3*x3 + x1*x1*x1*x2*y3 + (-1*x1*x1*x1*x2*y3*y3*y3) + x1*x1*x1*x2*x3*x3*y3 + d*y1*y2*x3*x3*y3*y3*y3 + d*y1*x2*x3*x3*x3*y3*y3 + d*y1*x2*y2*y2*x3*y3*y3 + d*y1*x2*x2*y2*x3*x3*y3 + (-1*d*y1*y1*y1*y2*x3*x3*y3*y3*y3) + (-1*d*y1*y1*y1*x2*x3*x3*x3*y3*y3) + (-1*d*y1*y1*y1*x2*y2*y2*x3*y3*y3) + (-1*d*y1*y1*y1*x2*x2*y2*x3*x3*y3) + d*x1*y2*x3*x3*x3*y3*y3 + d*x1*x2*x3*x3*y3*y3*y3 + (-1*d*x1*x2*y2*y2*x3*x3*y3) + (-1*d*x1*x2*x2*y2*x3*y3*y3) + (-1*d*x1*y1*y1*y2*x3*x3*x3*y3*y3) + (-1*d*x1*y1*y1*x2*x3*x3*y3*y3*y3) + d*x1*y1*y1*x2*y2*y2*x3*x3*y3 + d*x1*y1*y1*x2*x2*y2*x3*y3*y3 + d*x1*x1*y1*y2*x3*x3*y3*y3*y3 + d*x1*x1*y1*x2*x3*x3*x3*y3*y3 + d*x1*x1*y1*x2*y2*y2*x3*y3*y3 + d*x1*x1*y1*x2*x2*y2*x3*x3*y3 + d*x1*x1*x1*y2*x3*x3*x3*y3*y3 + d*x1*x1*x1*x2*x3*x3*y3*y3*y3 + (-1*d*x1*x1*x1*x2*y2*y2*x3*x3*y3) + (-1*d*x1*x1*x1*x2*x2*y2*x3*y3*y3) + d*d*x1*y1*y1*x2*y2*y2*x3*x3*y3*y3*y3 + (-1*d*d*x1*y1*y1*x2*x2*y2*x3*x3*x3*y3*y3) + (-1*d*d*x1*x1*y1*x2*y2*y2*x3*x3*x3*y3*y3) + d*d*x1*x1*y1*x2*x2*y2*x3*x3*y3*y3*y3)*(y2*y2 - x2*x2 - 1 - d*x2*x2*y2*y2) + ((-1*y1*y2*y3) + y1*y2*y2*y2*y3 + (-1*y1*x2*x3) + y1*x2*y2*y2*x3 + (-1*y1*x2*x2*y2*y3) + (-1*y1*x2*x2*x2*x3) + y1*y1*y1*y2*y3 + (-1*y1*y1*y1*y2*y2*y2*y3) + y1*y1*y1*x2*x3 + (-1*y1*y1*y1*x2*y2*y2*x3) + y1*y1*y1*x2*x2*y2*y3 + y1*y1*y1*x2*x2*x2*x3 + (-1*x1*y2*x3) + x1*y2*y2*y2*x3 + (-1*x1*x2*y3) + x1*x2*y2*y2*y3 + (-1*x1*x2*x2*y2*x3) + (-1*x1*x2*x2*x2*y3) + x1*y1*y1*y2*x3 + (-1*x1*y1*y1*y2*y2*y2*x3) + x1*y1*y1*x2*y3 + (-1*x1*y1*y1*x2*y2*y2*y3) + x1*y1*y1*x2*x2*y2*x3 + x1*y1*y1*x2*x2*x2*y3 + (-1*x1*x1*y1*y2*y3) + x1*x1*y1*y2*y2*y2*y3 + (-1*x1*x1*y1*x2*x3) + x1*x1*y1*x2*y2*y2*x3 + (-1*x1*x1*y1*x2*x2*y2*y3) + (-1*x1*x1*y1*x2*x2*x2*x3) + (-1*x1*x1*x1*y2*x3) + x1*x1*x1*y2*y2*y2*x3 + (-1*x1*x1*x1*x2*y3) + x1*x1*x1*x2*y2*y2*y3 + (-1*x1*x1*x1*x2*x2*y2*x3) + (-1*x1*x1*x1*x2*x2*x2*y3) + (-1*d*x1*y1*y1*x2*y2*y2*y3) + d*x1*y1*y1*x2*x2*y2*x3 + d*x1*x1*y1*x2*y2*y2*x3 + (-1*d*x1*x1*y1*x2*x2*y2*y3))*(y3*y3 - x3*x3 - 1 - d*x3*x3*y3*y3) := by
    clear h1 h2 h3 e1 e2 e3
    grind -lia
  exact comb3 key e1 e2 e3

/-- A point of the curve. -/
structure Pn where
  x : K
  y : K
  on : OnK x y
theorem Pn.ext' {A B : Pn} (hx : A.x = B.x) (hy : A.y = B.y) : A = B := by
  cases A; cases B; cases hx; cases hy; rfl
theorem sum_on {A B : Pn} {X Y : K} (hX : X * (1 + D * A.x * B.x * A.y * B.y) = A.x * B.y + B.x * A.y) (hY : Y * (1 - D * A.x * B.x * A.y * B.y) = A.y * B.y + A.x * B.x) : OnK X Y := by
  obtain ⟨n1, n2⟩ := full A.on B.on
  have h := closed' (e := D * A.x * B.x * A.y * B.y) A.on B.on rfl hX hY
  exact k_cancel (k_mul_ne (k_mul_ne n2 n1) (k_mul_ne n2 n1)) h
theorem div_mul {a b : K} (h : b ≠ 0) : a * ki b * b = a := by
  have := ki_mul h
  generalize ki b = w at *
  grind -lia
noncomputable def Pn.add (A B : Pn) : Pn where
  x := (A.x * B.y + B.x * A.y) * ki (1 + D * A.x * B.x * A.y * B.y)
  y := (A.y * B.y + A.x * B.x) * ki (1 - D * A.x * B.x * A.y * B.y)
  on := sum_on (A := A) (B := B) (div_mul (full A.on B.on).1) (div_mul (full A.on B.on).2)
theorem add_x (A B : Pn) : (A.add B).x * (1 + D * A.x * B.x * A.y * B.y) = A.x * B.y + B.x * A.y := div_mul (full A.on B.on).1
theorem add_y (A B : Pn) : (A.add B).y * (1 - D * A.x * B.x * A.y * B.y) = A.y * B.y + A.x * B.x := div_mul (full A.on B.on).2
theorem add_of {A B : Pn} {X Y : K} (hX : X * (1 + D * A.x * B.x * A.y * B.y) = A.x * B.y + B.x * A.y) (hY : Y * (1 - D * A.x * B.x * A.y * B.y) = A.y * B.y + A.x * B.x) : X = (A.add B).x ∧ Y = (A.add B).y :=
  ⟨k_cancel (full A.on B.on).1 (hX.trans (add_x A B).symm), k_cancel (full A.on B.on).2 (hY.trans (add_y A B).symm)⟩
noncomputable def Pn.zero : Pn := ⟨0, 1, by unfold OnK; grind -lia⟩
noncomputable def Pn.neg (A : Pn) : Pn := ⟨-A.x, A.y, by have := A.on; unfold OnK at *; grind -lia⟩
theorem add_comm' (A B : Pn) : A.add B = B.add A := by
  obtain ⟨h1, h2⟩ := add_of (A := B) (B := A) (X := (A.add B).x) (Y := (A.add B).y)
    (by have := add_x A B; grind -lia) (by have := add_y A B; grind -lia)
  exact Pn.ext' h1 h2
theorem add_zero' (A : Pn) : A.add .zero = A := by
  obtain ⟨h1, h2⟩ := add_of (A := A) (B := .zero) (X := A.x) (Y := A.y) (by show A.x * (1 + D * A.x * 0 * A.y * 1) = A.x * 1 + 0 * A.y; grind -lia) (by show A.y * (1 - D * A.x * 0 * A.y * 1) = A.y * 1 + A.x * 0; grind -lia)
  exact (Pn.ext' h1 h2).symm
theorem add_neg' (A : Pn) : A.add A.neg = .zero := by
  obtain ⟨h1, h2⟩ := add_of (A := A) (B := A.neg) (X := 0) (Y := 1) (by show (0 : K) * _ = A.x * A.y + -A.x * A.y; grind -lia)
    (by show (1 : K) * (1 - D * A.x * -A.x * A.y * A.y) = A.y * A.y + A.x * -A.x; have := A.on; unfold OnK at this; grind -lia)
  exact (Pn.ext' h1 h2).symm
theorem twice_x {d x1 y1 x2 y2 x3 y3 X Y U e : K} (_he : e = d * x1 * x2 * y1 * y2) (hX : X * (1 + e) = x1 * y2 + x2 * y1) (hY : Y * (1 - e) = y1 * y2 + x1 * x2)
    (hU : U * (1 + d * X * x3 * Y * y3) = X * y3 + x3 * Y) :
    U * ((1 - e) * (1 + e) + d * (x1 * y2 + x2 * y1) * (y1 * y2 + x1 * x2) * x3 * y3) = (x1 * y2 + x2 * y1) * y3 * (1 - e) + x3 * (y1 * y2 + x1 * x2) * (1 + e) := by
  rw [← hX, ← hY]
  have h : U * ((1 - e) * (1 + e) + d * (X * (1 + e)) * (Y * (1 - e)) * x3 * y3) = U * (1 + d * X * x3 * Y * y3) * ((1 - e) * (1 + e)) := by grind -lia
  rw [h, hU]
  grind -lia
theorem twice_y {d x1 y1 x2 y2 x3 y3 X Y U e : K} (_he : e = d * x1 * x2 * y1 * y2) (hX : X * (1 + e) = x1 * y2 + x2 * y1) (hY : Y * (1 - e) = y1 * y2 + x1 * x2)
    (hU : U * (1 - d * X * x3 * Y * y3) = Y * y3 + X * x3) :
    U * ((1 - e) * (1 + e) - d * (x1 * y2 + x2 * y1) * (y1 * y2 + x1 * x2) * x3 * y3) = (y1 * y2 + x1 * x2) * y3 * (1 + e) + (x1 * y2 + x2 * y1) * x3 * (1 - e) := by
  rw [← hX, ← hY]
  have h : U * ((1 - e) * (1 + e) - d * (X * (1 + e)) * (Y * (1 - e)) * x3 * y3) = U * (1 - d * X * x3 * Y * y3) * ((1 - e) * (1 + e)) := by grind -lia
  rw [h, hU]
  grind -lia
theorem denom {A B : Pn} (C : Pn) :
    (1 - D * A.x * B.x * A.y * B.y) * (1 + D * A.x * B.x * A.y * B.y) + D * (A.x * B.y + B.x * A.y) * (A.y * B.y + A.x * B.x) * C.x * C.y ≠ 0 ∧
    (1 - D * A.x * B.x * A.y * B.y) * (1 + D * A.x * B.x * A.y * B.y) - D * (A.x * B.y + B.x * A.y) * (A.y * B.y + A.x * B.x) * C.x * C.y ≠ 0 := by
  obtain ⟨n1, n2⟩ := full A.on B.on
  obtain ⟨m1, m2⟩ := full (A.add B).on C.on
  rw [← add_x, ← add_y]
  generalize D * A.x * B.x * A.y * B.y = e at *
  generalize (A.add B).x = X at *
  generalize (A.add B).y = Y at *
  refine ⟨fun h => ?_, fun h => ?_⟩
  · refine k_mul_ne (k_mul_ne n1 n2) m1 ?_
    generalize D = d at *
    clear n1 n2 m1 m2
    grind -lia
  · refine k_mul_ne (k_mul_ne n1 n2) m2 ?_
    generalize D = d at *
    clear n1 n2 m1 m2
    grind -lia
theorem cross_eq {L R M N U W : K} (hL : L * M = U) (hR : R * N = W) (h : U * N - W * M = 0) (hm : M ≠ 0) (hn : N ≠ 0) : L = R := by
  refine k_cancel (k_mul_ne hm hn) ?_
  subst hL hR
  grind -lia
theorem add_assoc' (A B C : Pn) : (A.add B).add C = A.add (B.add C) := by
  obtain ⟨m1, m2⟩ := denom (A := A) (B := B) C
  obtain ⟨n1, n2⟩ := denom (A := B) (B := C) A
  have x1 := twice_x rfl (add_x A B) (add_y A B) (add_x (A.add B) C)
  have y1 := twice_y rfl (add_x A B) (add_y A B) (add_y (A.add B) C)
  have x2 := twice_x rfl (add_x B C) (add_y B C) (add_x (B.add C) A)
  have y2 := twice_y rfl (add_x B C) (add_y B C) (add_y (B.add C) A)
  rw [add_comm' A (B.add C)]
  have a1 := assoc1 A.on B.on C.on
  have a2 := assoc2 A.on B.on C.on
  refine Pn.ext' (cross_eq x1 x2 ?_ m1 n1) (cross_eq y1 y2 ?_ m2 n2)
  · clear x1 y1 x2 y2 a2 m1 m2 n1 n2
    grind -lia
  · clear x1 y1 x2 y2 a1 m1 m2 n1 n2
    grind -lia
end Go.Proofs.Ytbnclikjbnfodaa
