/-
  A part of the groundwork of this seat's claims: an evaluator over the program, walks, and plain mathematics. Conditions: none.
-/
import Derived.Test.YtbnclikjbnfodaaZ18
/-
  A point's encoding is one number; Encode tells it, Decode reads it. Conditions: none.
-/
namespace Go.Proofs.Ytbnclikjbnfodaa
set_option maxRecDepth 100000
open Go.Ev Go.Num

/-- The number that a point's encoding is. -/
def en (A : Pn) : Int := (A.y.val : Int) + 57896044618658097711785492504343953926634992332820282019728792003956564819968 * ((A.x.val : Int) % 2)
theorem or128 {a : Int} (h : 0 ≤ a ∧ a < 128) : orI .u8 a 128 = a + 128 := by
  have all : ∀ n : Fin 128, orI .u8 (n.val : Int) 128 = (n.val : Int) + 128 := by decide
  have := all ⟨a.toNat, by omega⟩
  rwa [show ((a.toNat : Nat) : Int) = a by omega] at this
theorem encE {q : Nat → Int} {A : Pn} (hq : Fm q A) : B32 (encodePO q) ∧ vb (encodePO q) = en A := by
  obtain ⟨z, hz, x1, y1, z1, t1⟩ := hq
  have hw := ki_mul hz
  have xx : Ik (mulFO (sh 0 q) (invertFO (sh 10 q))) A.x := (mulE2 x1 (invE z1)).to (by
    clear x1 y1 z1 t1; generalize ki z = w at *; grind -lia)
  have yy : Ik (mulFO (sh 5 q) (invertFO (sh 10 q))) A.y := (mulE2 y1 (invE z1)).to (by
    clear x1 y1 z1 t1 xx; generalize ki z = w at *; grind -lia)
  rw [encodePO_eq]
  unfold encodeP en
  obtain ⟨bB, bv⟩ := bytesE yy
  have top := vb_top bB
  have hy := A.y.isLt
  have b31 := bB 31 (by omega)
  generalize bytesFO (mulFO (sh 5 q) (invertFO (sh 10 q))) = c at *
  rw [isOddE xx]
  by_cases h : A.x.val % 2 = 1
  · rw [decide_eq_true h, cond_true]
    have hlt : c 31 < 128 := by omega
    rw [or128 ⟨b31.1, hlt⟩]
    obtain ⟨u1, u2⟩ := vb_up bB (c := c 31 + 128) (by omega)
    exact ⟨u1, by omega⟩
  · rw [decide_eq_false h, cond_false]
    exact ⟨bB, by omega⟩

theorem k_val {a b : K} : (a.val : Int) = b.val ↔ a = b := ⟨fun h => Fin.ext (by omega), fun h => by rw [h]⟩
theorem neg_val (k : K) : ((-k : K).val : Int) = (-(k.val : Int)) % p := by rw [← kk_val, kk_neg, kk_of]
theorem k_cancel' {a b c : K} (hc : c ≠ 0) (h : c * a = c * b) : a = b := k_cancel hc (by rw [Fin.mul_comm a, h, Fin.mul_comm])
theorem k_sq {a b : K} (h : a * a = b * b) : a = b ∨ a = -b := by
  have h' : (a - b) * (a + b) = 0 := by grind -lia
  rcases k_mul_zero h' with h | h
  · exact .inl (by grind -lia)
  · exact .inr (by grind -lia)
/-- The equation's denominator is not 0. -/
theorem dy_ne (y : K) : D * (y * y) + 1 ≠ 0 := by
  intro h
  have hy : y ≠ 0 := fun h0 => by
    rw [h0] at h
    generalize D = d at *
    have : (1 : K) = 0 := by grind -lia
    exact absurd this (by decide)
  have hw := ki_mul hy
  have hi := I_sq
  generalize ki y = w at *
  refine D_sq (I * w) ?_
  generalize D = d at *
  generalize I = i at *
  grind -lia
theorem on_iff {x y : K} : OnK x y ↔ (D * (y * y) + 1) * (x * x) = y * y - 1 := by
  unfold OnK
  generalize D = d
  constructor <;> intro h <;> grind -lia
theorem en_y {A : Pn} {N : Int} (h : N = en A) : (A.y.val : Int) = N % 57896044618658097711785492504343953926634992332820282019728792003956564819968 ∧ (A.x.val : Int) % 2 = N / 57896044618658097711785492504343953926634992332820282019728792003956564819968 := by
  unfold en at h
  have := A.y.isLt
  omega
/-- No two numbers other than 0 that are opposite are even. -/
theorem odd_neg {k : K} (h : k ≠ 0) : ((-k : K).val : Int) % 2 = 1 - (k.val : Int) % 2 := by
  rw [neg_val]
  have h0 : k.val ≠ 0 := fun h0 => h (Fin.ext h0)
  have := k.isLt
  unfold p
  omega
theorem x_of {x x' y : K} (h : OnK x y) (h' : OnK x' y) (hp : (x.val : Int) % 2 = (x'.val : Int) % 2) : x = x' := by
  have e : x * x = x' * x' := by
    refine k_cancel' (dy_ne y) ?_
    rw [on_iff.1 h, on_iff.1 h']
  rcases k_sq e with h | h
  · exact h
  · by_cases h0 : x' = 0
    · rw [h, h0]; decide
    · exfalso
      rw [h, odd_neg h0] at hp
      omega
theorem en_inj {A B : Pn} (h : en A = en B) : A = B := by
  obtain ⟨a1, a2⟩ := en_y (A := A) rfl
  obtain ⟨b1, b2⟩ := en_y h
  have hy : A.y = B.y := k_val.1 (by omega)
  have hA := A.on
  rw [hy] at hA
  exact Pn.ext' (x_of hA B.on (by omega)) hy

theorem sqrtE {u v : Nat → Int} {a b : K} (hu : Ik u a) (hv : Ik v b) (hb : b ≠ 0) :
    (∃ k, (sqrtFO u v).2 = true ∧ Ik (sqrtFO u v).1 k ∧ b * (k * k) = a ∧ (k.val : Int) % 2 = 0) ∨ ((sqrtFO u v).2 = false ∧ ∀ k, b * (k * k) ≠ a) := by
  rw [sqrtFO_eq]
  obtain ⟨s1, s2⟩ := sqrt_v hu.1 hv.1
  have hV : v5 v % p ≠ 0 := fun h => hb (by rw [← hv.2]; exact kk_z.2 h)
  rw [s2]
  cases h : (sqZ (v5 u) (v5 v)).2 with
  | true =>
    obtain ⟨r1, r2⟩ := sq_ok hV h
    refine .inl ⟨_, rfl, s1.k, ?_, ?_⟩
    · rw [← hv.2, ← hu.2, ← kk_mul, ← kk_mul]
      exact kk_iff.2 r1
    · rw [kk_val]; exact r2
  | false =>
    refine .inr ⟨rfl, fun k e => ?_⟩
    rw [← hv.2, ← hu.2, ← kk_of k, ← kk_mul, ← kk_mul, kk_iff] at e
    have := sq_square hV (show Eqp _ _ from e.symm)
    rw [h] at this
    cases this

theorem four_fm {xa ya ta : Nat → Int} {x y : K} (hx : Ik xa x) (hy : Ik ya y) (ht : Ik ta (x * y)) (on : OnK x y) :
    Fm (spl 15 5 20 ta (spl 10 5 20 unitFO (spl 5 5 20 ya (spl 0 5 20 xa (fun _ => 0))))) ⟨x, y, on⟩ := by
  have e1 : ∀ k : K, k = k * 1 := fun k => (Fin.mul_one k).symm
  exact ⟨1, by decide, hx.as (fiv rfl rfl rfl rfl rfl) (e1 _), hy.as (fiv rfl rfl rfl rfl rfl) (e1 _), unitE.congr (fiv rfl rfl rfl rfl rfl), ht.as (fiv rfl rfl rfl rfl rfl) (e1 _)⟩

/-- What Decode reads. -/
theorem decE {b : Nat → Int} (hb : B32 b) : (∃ A, (decodePO b).2 = true ∧ Fm (decodePO b).1 A ∧ vb b = en A) ∨
    ((decodePO b).2 = false ∧ (decodePO b).1 = (fun _ => 0) ∧ ∀ A, vb b ≠ en A) := by
  have top := vb_top hb
  have b31 := hb 31 (by omega)
  have hs : shrI .u8 (b 31) 7 = b 31 / 128 := shrU8 (b 31) 7 (by omega)
  have ha : andI .u8 (b 31) 127 = b 31 % 128 := and8_7 _
  rw [decodePO_eq]
  unfold decodeP
  rw [hs, ha]
  obtain ⟨cB, cv⟩ := vb_up hb (c := b 31 % 128) (by omega)
  generalize hc : up 31 (b 31 % 128) b = c at *
  have cN : vb c = vb b % 57896044618658097711785492504343953926634992332820282019728792003956564819968 := by omega
  rw [canonicalE cB]
  by_cases hcan : vb c < p
  rotate_left
  · rw [decide_eq_false hcan, Bool.not_false, cond_true]
    refine .inr ⟨rfl, rfl, fun A hA => hcan ?_⟩
    have := (en_y hA).1
    have := A.y.isLt
    unfold p
    omega
  rw [decide_eq_true hcan, Bool.not_true, cond_false]
  have c0 := (vb_bound cB).1
  have hy : Ik (fromBytesFO c) (kk (vb c)) := (fromBytesE cB).to (by
    rw [Int.emod_eq_of_lt c0 (by unfold p at hcan; omega)])
  have yv : ((kk (vb c)).val : Int) = vb c := by rw [kk_val]; exact Int.emod_eq_of_lt c0 hcan
  generalize hyk : kk (vb c) = y at *
  generalize fromBytesFO c = ya at *
  have hu := subE (sqE hy) unitE
  have hv := addE (mulE2 limbsE (sqE hy)) unitE
  have uni : ∀ A : Pn, vb b = en A → A.y = y ∧ (D * (y * y) + 1) * (A.x * A.x) = y * y - 1 ∧ (A.x.val : Int) % 2 = b 31 / 128 := by
    intro A hA
    obtain ⟨a1, a2⟩ := en_y hA
    have e : A.y = y := k_val.1 (by omega)
    refine ⟨e, ?_, by omega⟩
    rw [← e]
    exact on_iff.1 A.on
  rcases sqrtE hu hv (dy_ne y) with ⟨k, h1, h2, h3, h4⟩ | ⟨h1, h2⟩
  rotate_left
  · rw [h1, Bool.not_false, cond_true]
    exact .inr ⟨rfl, rfl, fun A hA => h2 _ (uni A hA).2.1⟩
  rw [h1, Bool.not_true, cond_false]
  generalize (sqrtFO (subFO (squareFO ya) unitFO) (addFO (mulFO limbsFO (squareFO ya)) unitFO)).1 = r at *
  have on : OnK k y := on_iff.2 h3
  by_cases odd : b 31 / 128 = 1
  · rw [show (b 31 / 128 == 1) = true by simpa using odd, cond_true, cond_true, isZeroE h2]
    by_cases k0 : k = 0
    · rw [decide_eq_true k0, cond_true]
      refine .inr ⟨rfl, rfl, fun A hA => ?_⟩
      obtain ⟨_, g1, g2⟩ := uni A hA
      have : A.x * A.x = 0 * 0 := by
        refine k_cancel' (dy_ne y) ?_
        rw [g1, ← h3, k0]
      have hx : A.x = 0 := by
        rcases k_mul_zero (this.trans (Fin.mul_zero 0)) with h | h <;> exact h
      rw [hx] at g2
      have z : (((0 : K).val : Nat) : Int) % 2 = 0 := by decide
      omega
    · rw [decide_eq_false k0, cond_false]
      have onn : OnK (-k) y := by
        unfold OnK at *
        generalize D = d at *
        clear uni
        grind -lia
      refine .inl ⟨⟨-k, y, onn⟩, rfl, four_fm (negE h2) hy (mulE2 (negE h2) hy) onn, ?_⟩
      have o := odd_neg k0
      show _ = (y.val : Int) + _ * (((-k : K).val : Int) % 2)
      omega
  · rw [show (b 31 / 128 == 1) = false by simpa using odd, cond_false, cond_false]
    refine .inl ⟨⟨k, y, on⟩, rfl, four_fm h2 hy (mulE2 h2 hy) on, ?_⟩
    show _ = (y.val : Int) + _ * ((k.val : Int) % 2)
    omega

/-- The point that a key tells, or the base point. -/
theorem pointE {b : Nat → Int} (hb : B32 b) : ∃ A, Fm (pointPO b) A := by
  rw [pointPO_eq]
  unfold pointP
  rcases decE hb with ⟨A, h1, h2, _⟩ | ⟨h1, h2, _⟩
  · rw [h1]; exact ⟨A, h2⟩
  · rw [h1]; exact ⟨Bp, baseP_fm⟩
theorem lives_true : livesO = true := by
  rw [livesO_eq]
  unfold lives
  have h2 : equalPO basePO zeroPO = false := Bool.eq_false_iff.2 fun h => by
    have := (equalP_iff baseP_fm zeroP_fm).1 h
    have hx : Bp.x = Pn.zero.x := by rw [this]
    revert hx
    show kk _ ≠ 0
    rw [Ne, kk_z]; decide
  have h3 : equalPO basePO (negPO basePO) = false := Bool.eq_false_iff.2 fun h => by
    have := (equalP_iff baseP_fm (negP_fm baseP_fm)).1 h
    have hx : Bp.x = Bp.neg.x := by rw [← this]
    revert hx
    show kk _ ≠ -kk _
    rw [Ne, ← kk_neg, kk_iff]; decide
  have h4 : onPO (fun _ => 0) = false := by
    rw [onPO_eq]
    unfold onP
    rw [isZeroE (zeroE.congr (y := sh 10 (fun _ => 0)) (fiv rfl rfl rfl rfl rfl))]
    rfl
  rw [onP_of baseP_fm, h2, h3, h4]
  rfl
theorem flatE {q : Nat → Int} {A : Pn} (hq : Fm q A) : Ik (flatPO q).1 A.x ∧ Ik (flatPO q).2 A.y := by
  obtain ⟨z, hz, x1, y1, z1, t1⟩ := hq
  have hw := ki_mul hz
  rw [flatPO_eq]
  unfold flatP
  have m1 := mulE2 x1 (invE z1)
  have m2 := mulE2 y1 (invE z1)
  generalize ki z = w at *
  refine ⟨m1.to ?_, m2.to ?_⟩
  · clear m1 m2 x1 y1 z1 t1; grind -lia
  · clear m1 m2 x1 y1 z1 t1; grind -lia
theorem onLaw_true {q : Nat → Int} {A : Pn} (hq : Fm q A) : onLawPO q = true := by
  obtain ⟨f1, f2⟩ := flatE hq
  obtain ⟨z, hz, x1, y1, z1, t1⟩ := hq
  have hw := ki_mul hz
  have on := A.on
  rw [onLawPO_eq]
  unfold onLawP
  have one := smallE 1 (by omega) (by omega)
  rw [kk_1] at one
  rw [isZeroE z1, decide_eq_false hz, equalE (subE (sqE f2) (sqE f1)) (addE one (mulE2 number2E (mulE2 (sqE f1) (sqE f2)))), equalE (mulE2 t1 (invE z1)) (mulE2 f1 f2)]
  have e1 : A.y * A.y - A.x * A.x = 1 + D * (A.x * A.x * (A.y * A.y)) := by
    unfold OnK at on
    generalize D = d at *
    clear x1 y1 z1 t1 f1 f2 one
    grind -lia
  have e2 : A.x * A.y * z * ki z = A.x * A.y := by
    generalize ki z = w at *
    clear x1 y1 z1 t1 f1 f2 one on e1
    grind -lia
  rw [decide_eq_true e1, decide_eq_true e2]
  rfl
end Go.Proofs.Ytbnclikjbnfodaa

/-
  The document's points are the program's. Conditions: none.
-/
namespace Go.Proofs.Ytbnclikjbnfodaa
set_option maxRecDepth 100000
open Go.Ev Go.Num

/-- The document's digits that mean k. -/
def Jk (a : Nat → Int) (k : K) : Prop := D10 a ∧ v10 a = (k.val : Int)
theorem Ir.k {a : Nat → Int} {X : Int} (h : Ir a X) : Jk a (kk X) := ⟨h.2, by rw [h.1, kk_val]⟩
theorem Jk.r {a : Nat → Int} {k : K} (h : Jk a k) : Ir a (k.val : Int) := ⟨by rw [h.2]; exact (Int.emod_eq_of_lt (by omega) (by have := k.isLt; unfold p; omega)).symm, h.1⟩
theorem Jk.to {x : Nat → Int} {a b : K} (h : Jk x a) (e : a = b) : Jk x b := e ▸ h
theorem tenn {P : Nat → Prop} (h0 : P 0) (h1 : P 1) (h2 : P 2) (h3 : P 3) (h4 : P 4) (h5 : P 5) (h6 : P 6) (h7 : P 7) (h8 : P 8) (h9 : P 9) : ∀ j, j < 10 → P j
  | 0, _ => h0 | 1, _ => h1 | 2, _ => h2 | 3, _ => h3 | 4, _ => h4 | 5, _ => h5 | 6, _ => h6 | 7, _ => h7 | 8, _ => h8 | 9, _ => h9
  | n + 10, h => absurd h (by omega)
theorem D10_congr {a b : Nat → Int} (h : D10 a) (e : ∀ j, j < 10 → b j = a j) : D10 b := by
  have hv : v10 b = v10 a := dv_congr e
  refine ⟨fun j hj => ?_, ?_⟩
  · rw [e j hj]; exact h.dig j hj
  · rw [hv]; exact h.lt
theorem Jk.congr {x y : Nat → Int} {k : K} (h : Jk x k) (e : ∀ j, j < 10 → y j = x j) : Jk y k :=
  ⟨D10_congr h.1 e, by rw [show v10 y = v10 x from dv_congr e]; exact h.2⟩
theorem Jk.as {x y : Nat → Int} {a b : K} (h : Jk x a) (e : ∀ j, j < 10 → y j = x j) (k : a = b) : Jk y b := (h.congr e).to k
theorem mulJ {a b : Nat → Int} {x y : K} (ha : Jk a x) (hb : Jk b y) : Jk (rMulO a b) (x * y) := by
  rw [rMulO_eq]
  exact (mulR ha.r hb.r).k.to (by rw [kk_mul, kk_of, kk_of])
theorem addJ {a b : Nat → Int} {x y : K} (ha : Jk a x) (hb : Jk b y) : Jk (rAddO a b) (x + y) := by
  rw [rAddO_eq]
  obtain ⟨h1, h2⟩ := add_r ha.1 hb.1
  exact ⟨h2, by rw [h1, ha.2, hb.2, ← kk_val, kk_add, kk_of, kk_of]⟩
theorem subJ {a b : Nat → Int} {x y : K} (ha : Jk a x) (hb : Jk b y) : Jk (rSubO a b) (x - y) := by
  rw [rSubO_eq]
  obtain ⟨h1, h2⟩ := sub_r ha.1 hb.1
  exact ⟨h2, by rw [h1, ha.2, hb.2, ← kk_val, kk_sub, kk_of, kk_of]⟩
theorem negJ {a : Nat → Int} {x : K} (ha : Jk a x) : Jk (rNegO a) (-x) := by
  rw [rNegO_eq]
  obtain ⟨h1, h2⟩ := neg_r ha.1
  exact ⟨h2, by rw [h1, ha.2, ← kk_val, kk_neg, kk_of]⟩
theorem smallJ (n : Int) (h0 : 0 ≤ n) (h1 : n < 18446744073709551616) : Jk (rSmallO n) (kk n) := by
  rw [rSmallO_eq]; exact (smallR n h0 h1).k
theorem invJ {a : Nat → Int} {x : K} (ha : Jk a x) : Jk (rInvertO a) (ki x) := by
  rw [rInvertO_eq]
  exact (invR ha.r).k.to (by rw [kk_inv, kk_of])
theorem eqJ {a b : Nat → Int} {x y : K} (ha : Jk a x) (hb : Jk b y) : eqN 10 a b = decide (x = y) := by
  rw [eq10 ha.1 hb.1, ha.2, hb.2]; exact decide_eq_decide.2 k_val
theorem isZeroJ {a : Nat → Int} {x : K} (ha : Jk a x) : rIsZeroO a = decide (x = 0) := by
  rw [rIsZeroO_eq, rIsZero_v ha.1, ha.2]
  refine decide_eq_decide.2 ⟨fun h => Fin.ext (by show x.val = 0; omega), fun h => by rw [h]; rfl⟩
theorem isOddJ {a : Nat → Int} {x : K} (ha : Jk a x) : rIsOddO a = decide (x.val % 2 = 1) := by
  rw [rIsOddO_eq, rIsOdd_v, ha.2, Bool.eq_iff_iff]
  simp only [beq_iff_eq, decide_eq_true_eq]
  omega
theorem ofJ {x : Nat → Int} {a : K} (hx : Ik x a) : Jk (rOfO x) a := by
  rw [rOfO_eq]
  exact (ofI hx.1).k.to hx.2
theorem bytesJ {a : Nat → Int} {x : K} (ha : Jk a x) : B32 (rBytesO a) ∧ vb (rBytesO a) = (x.val : Int) := by
  have h : ∀ j, j < 32 → rBytesO a j = (x.val : Int) / 256 ^ j % 256 := fun j hj => by rw [rBytesO_eq, rBytes_v ha.1 j hj, ha.2]
  refine ⟨fun j hj => by rw [h j hj]; omega, ?_⟩
  show dv 256 32 _ = _
  rw [dv_congr h, dv_digits (by omega)]
  have := x.isLt
  exact Int.emod_eq_of_lt (by omega) (by rw [show (256 : Int) ^ 32 = 115792089237316195423570985008687907853269984665640564039457584007913129639936 by decide]; omega)
theorem fromBytesJ {b : Nat → Int} (h : B32 b) : Jk (rFromBytesO b) (kk (vb b % 57896044618658097711785492504343953926634992332820282019728792003956564819968)) := by
  obtain ⟨f1, f2⟩ := rFromBytes_v h
  rw [rFromBytesO_eq]
  exact ⟨f2, by rw [f1, kk_val]⟩
theorem canonicalJ {b : Nat → Int} (h : B32 b) : rCanonicalO b = decide (vb b < p) := by
  obtain ⟨f1, f2⟩ := rFromBytes_v h
  rw [rCanonicalO_eq]
  unfold rCanonical
  generalize hN : vb b = N at f1
  rw [← hN]
  exact canon_iff h hN rfl (fun j hj => by rw [rBytes_v f2 j hj, f1])
theorem DJ : Jk rDO D := by
  rw [rDO_eq]
  unfold rD
  refine (fromBytesJ (by unfold B32; decide)).to ?_
  unfold D
  rw [kk_iff]
  decide
theorem sqrtJ {u v : Nat → Int} {a b : K} (hu : Jk u a) (hv : Jk v b) (hb : b ≠ 0) :
    (∃ k, (rSqrtO u v).2 = true ∧ Jk (rSqrtO u v).1 k ∧ b * (k * k) = a ∧ (k.val : Int) % 2 = 0) ∨ ((rSqrtO u v).2 = false ∧ ∀ k, b * (k * k) ≠ a) := by
  rw [rSqrtO_eq]
  obtain ⟨s1, s2⟩ := sqrt_r hu.r hv.r
  have hV : (b.val : Int) % p ≠ 0 := fun h => hb (by rw [← kk_of b]; exact kk_z.2 h)
  rw [s2]
  cases h : (sqZ (a.val : Int) (b.val : Int)).2 with
  | true =>
    obtain ⟨r1, r2⟩ := sq_ok hV h
    refine .inl ⟨_, rfl, s1.k, ?_, ?_⟩
    · have := kk_iff.2 (show _ % p = _ % p from r1)
      rwa [kk_mul, kk_mul, kk_of, kk_of] at this
    · rw [kk_val]; exact r2
  | false =>
    refine .inr ⟨rfl, fun k e => ?_⟩
    have e' : kk ((b.val : Int) * ((k.val : Int) * (k.val : Int))) = kk (a.val : Int) := by rw [kk_mul, kk_mul, kk_of, kk_of, kk_of, e]
    have := sq_square hV (show Eqp _ _ from (kk_iff.1 e').symm)
    rw [h] at this
    cases this

/-- a is a form of the point A, in the document's coordinates. -/
def Rm (a : Nat → Int) (A : Pn) : Prop := ∃ z : K, z ≠ 0 ∧ Jk (sh 0 a) (A.x * z) ∧ Jk (sh 10 a) (A.y * z) ∧ Jk (sh 20 a) z
theorem ofP_rm {q : Nat → Int} {A : Pn} (hq : Fm q A) : Rm (rOfPO q) A := by
  obtain ⟨z, hz, x1, y1, z1, t1⟩ := hq
  rw [rOfPO_eq]
  exact ⟨z, hz, (ofJ x1).congr (tenn rfl rfl rfl rfl rfl rfl rfl rfl rfl rfl), (ofJ y1).congr (tenn rfl rfl rfl rfl rfl rfl rfl rfl rfl rfl), (ofJ z1).congr (tenn rfl rfl rfl rfl rfl rfl rfl rfl rfl rfl)⟩
theorem affine_rm {xa ya : Nat → Int} {x y : K} (hx : Jk xa x) (hy : Jk ya y) (on : OnK x y) : Rm (rAffineO xa ya) ⟨x, y, on⟩ := by
  rw [rAffineO_eq]
  have e1 : ∀ k : K, k = k * 1 := fun k => (Fin.mul_one k).symm
  have one := smallJ 1 (by omega) (by omega)
  rw [kk_1] at one
  exact ⟨1, by decide, hx.as (tenn rfl rfl rfl rfl rfl rfl rfl rfl rfl rfl) (e1 _), hy.as (tenn rfl rfl rfl rfl rfl rfl rfl rfl rfl rfl) (e1 _), one.congr (tenn rfl rfl rfl rfl rfl rfl rfl rfl rfl rfl)⟩
theorem rEqual_iff {q r : Nat → Int} {A B : Pn} (hq : Rm q A) (hr : Rm r B) : rEqualPO q r = true ↔ A = B := by
  obtain ⟨z, hz, x1, y1, z1⟩ := hq
  obtain ⟨w, hw, x2, y2, z2⟩ := hr
  rw [rEqualPO_eq]
  unfold rEqualP
  rw [eqJ (mulJ x1 z2) (mulJ x2 z1), eqJ (mulJ y1 z2) (mulJ y2 z1)]
  have c : ∀ a b : K, a * z * w = b * w * z ↔ a = b := fun a b => by
    constructor
    · intro h
      refine k_cancel (k_mul_ne hz hw) ?_
      clear x1 y1 z1 x2 y2 z2
      grind -lia
    · intro h
      subst h
      clear x1 y1 z1 x2 y2 z2
      grind -lia
  by_cases hx : A.x = B.x
  · rw [decide_eq_true ((c _ _).2 hx), cond_true, decide_eq_true_eq, c]
    exact ⟨fun h => Pn.ext' hx h, fun h => by rw [h]⟩
  · rw [decide_eq_false (fun h => hx ((c _ _).1 h)), cond_false]
    exact ⟨fun h => absurd h (by simp), fun h => absurd (by rw [h]) hx⟩
theorem rOnP_of {q : Nat → Int} {A : Pn} (hq : Fm q A) : rOnPO q = true := by
  obtain ⟨z, hz, x1, y1, z1, t1⟩ := hq
  have on := A.on
  unfold OnK at on
  have x1 := ofJ x1; have y1 := ofJ y1; have z1 := ofJ z1; have t1 := ofJ t1
  rw [rOnPO_eq]
  unfold rOnP
  rw [isZeroJ z1, decide_eq_false hz, eqJ (mulJ x1 y1) (mulJ z1 t1), eqJ (subJ (mulJ y1 y1) (mulJ x1 x1)) (addJ (mulJ z1 z1) (mulJ DJ (mulJ t1 t1)))]
  have e1 : A.x * z * (A.y * z) = z * (A.x * A.y * z) := by clear on x1 y1 z1 t1; grind -lia
  have e2 : A.y * z * (A.y * z) - A.x * z * (A.x * z) = z * z + D * (A.x * A.y * z * (A.x * A.y * z)) := by
    generalize D = d at *
    clear x1 y1 z1 t1 e1; grind -lia
  rw [decide_eq_true e1, decide_eq_true e2]; rfl
theorem isP_iff {q a : Nat → Int} {A B : Pn} (hq : Fm q A) (ha : Rm a B) : isPO q a = true ↔ A = B := by
  rw [isPO_eq]
  unfold isP
  rw [rOnP_of hq, cond_true]
  exact rEqual_iff (ofP_rm hq) ha

/-- The document's point of a y. -/
theorem acrossJ {ya : Nat → Int} {y : K} (hy : Jk ya y) :
    (∃ k, (rAcrossO ya).2 = true ∧ Jk (rAcrossO ya).1 k ∧ (D * (y * y) + 1) * (k * k) = y * y - 1 ∧ (k.val : Int) % 2 = 0) ∨ ((rAcrossO ya).2 = false ∧ ∀ k, (D * (y * y) + 1) * (k * k) ≠ y * y - 1) := by
  rw [rAcrossO_eq]
  have one := smallJ 1 (by omega) (by omega)
  rw [kk_1] at one
  exact sqrtJ (subJ (mulJ hy hy) one) (addJ (mulJ DJ (mulJ hy hy)) one) (dy_ne y)
/-- What the document's Decode reads. -/
theorem decJ {b : Nat → Int} (hb : B32 b) : (∃ A, (rDecodePO b).2 = true ∧ Rm (rDecodePO b).1 A ∧ vb b = en A) ∨
    ((rDecodePO b).2 = false ∧ ∀ A, vb b ≠ en A) := by
  have top := vb_top hb
  have b31 := hb 31 (by omega)
  have ha : remI (b 31) 128 = b 31 % 128 := by
    obtain ⟨n, hn⟩ := Int.eq_ofNat_of_zero_le b31.1
    rw [hn]
    exact (rem_nat n 128).trans (by omega)
  rw [rDecodePO_eq]
  unfold rDecodeP
  rw [ha]
  obtain ⟨cB, cv⟩ := vb_up hb (c := b 31 % 128) (by omega)
  generalize hc : up 31 (b 31 % 128) b = c at *
  have cN : vb c = vb b % 57896044618658097711785492504343953926634992332820282019728792003956564819968 := by omega
  rw [canonicalJ cB]
  by_cases hcan : vb c < p
  rotate_left
  · rw [decide_eq_false hcan, Bool.not_false, cond_true]
    refine .inr ⟨rfl, fun A hA => hcan ?_⟩
    have := (en_y hA).1
    have := A.y.isLt
    unfold p
    omega
  rw [decide_eq_true hcan, Bool.not_true, cond_false]
  have c0 := (vb_bound cB).1
  have hy : Jk (rFromBytesO c) (kk (vb c)) := (fromBytesJ cB).to (by
    rw [Int.emod_eq_of_lt c0 (by unfold p at hcan; omega)])
  have yv : ((kk (vb c)).val : Int) = vb c := by rw [kk_val]; exact Int.emod_eq_of_lt c0 hcan
  generalize hyk : kk (vb c) = y at *
  generalize rFromBytesO c = ya at *
  have uni : ∀ A : Pn, vb b = en A → A.y = y ∧ (D * (y * y) + 1) * (A.x * A.x) = y * y - 1 ∧ (A.x.val : Int) % 2 = b 31 / 128 := by
    intro A hA
    obtain ⟨a1, a2⟩ := en_y hA
    have e : A.y = y := k_val.1 (by omega)
    refine ⟨e, ?_, by omega⟩
    rw [← e]
    exact on_iff.1 A.on
  rcases acrossJ hy with ⟨k, h1, h2, h3, h4⟩ | ⟨h1, h2⟩
  rotate_left
  · rw [h1, Bool.not_false, cond_true]
    exact .inr ⟨rfl, fun A hA => h2 _ (uni A hA).2.1⟩
  rw [h1, Bool.not_true, cond_false]
  generalize (rAcrossO ya).1 = r at *
  have on : OnK k y := on_iff.2 h3
  by_cases odd : b 31 ≥ 128
  · rw [decide_eq_true odd, cond_true, cond_true, isZeroJ h2]
    by_cases k0 : k = 0
    · rw [decide_eq_true k0, cond_true]
      refine .inr ⟨rfl, fun A hA => ?_⟩
      obtain ⟨_, g1, g2⟩ := uni A hA
      have : A.x * A.x = 0 * 0 := by
        refine k_cancel' (dy_ne y) ?_
        rw [g1, ← h3, k0]
      have hx : A.x = 0 := by
        rcases k_mul_zero (this.trans (Fin.mul_zero 0)) with h | h <;> exact h
      rw [hx] at g2
      have z : (((0 : K).val : Nat) : Int) % 2 = 0 := by decide
      omega
    · rw [decide_eq_false k0, cond_false]
      have onn : OnK (-k) y := by
        unfold OnK at *
        generalize D = d at *
        clear uni
        grind -lia
      refine .inl ⟨⟨-k, y, onn⟩, rfl, affine_rm (negJ h2) hy onn, ?_⟩
      have o := odd_neg k0
      show _ = (y.val : Int) + _ * (((-k : K).val : Int) % 2)
      omega
  · rw [decide_eq_false odd, cond_false, cond_false]
    refine .inl ⟨⟨k, y, on⟩, rfl, affine_rm h2 hy on, ?_⟩
    show _ = (y.val : Int) + _ * ((k.val : Int) % 2)
    omega
end Go.Proofs.Ytbnclikjbnfodaa
