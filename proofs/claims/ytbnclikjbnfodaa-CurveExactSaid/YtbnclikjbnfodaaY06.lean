/-
  A part of the groundwork of this seat's claims: an evaluator over the program, walks, and plain mathematics. Conditions: none.
-/
import Derived.Test.YtbnclikjbnfodaaY05
/-
  The curve's calls in numbers: what each answers of the forms of points. Conditions: none.
-/
namespace Go.Proofs.Ytbnclikjbnfodaa
set_option maxRecDepth 100000
open Go.Ev Go.Num

/-- Limbs that mean k. -/
def Ik (x : Nat → Int) (k : K) : Prop := U5 x ∧ kk (v5 x) = k
theorem Is.k {x : Nat → Int} {X : Int} (h : Is x X) : Ik x (kk X) := ⟨h.u, kk_iff.2 h.v⟩
theorem Ik.to {x : Nat → Int} {a b : K} (h : Ik x a) (e : a = b) : Ik x b := e ▸ h
theorem fiv {P : Nat → Prop} (h0 : P 0) (h1 : P 1) (h2 : P 2) (h3 : P 3) (h4 : P 4) : ∀ j, j < 5 → P j
  | 0, _ => h0 | 1, _ => h1 | 2, _ => h2 | 3, _ => h3 | 4, _ => h4
  | n + 5, h => absurd h (by omega)
theorem Ik.congr {x y : Nat → Int} {k : K} (h : Ik x k) (e : ∀ j, j < 5 → y j = x j) : Ik y k :=
  ⟨fun j hj => by rw [e j hj]; exact h.1 j hj, by rw [show v5 y = v5 x from dv_congr e]; exact h.2⟩
theorem Ik.as {x y : Nat → Int} {a b : K} (h : Ik x a) (e : ∀ j, j < 5 → y j = x j) (k : a = b) : Ik y b := (h.congr e).to k
theorem kk_z {a : Int} : kk a = 0 ↔ a % p = 0 := by rw [← kk_0, kk_iff]; rfl

theorem addE {x y : Nat → Int} {a b : K} (hx : Ik x a) (hy : Ik y b) : Ik (addFO x y) (a + b) := by
  rw [addFO_eq, ← hx.2, ← hy.2, ← kk_add]; exact (add_i hx.1 hy.1).k
theorem subE {x y : Nat → Int} {a b : K} (hx : Ik x a) (hy : Ik y b) : Ik (subFO x y) (a - b) := by
  rw [subFO_eq, ← hx.2, ← hy.2, ← kk_sub]; exact (sub_i hx.1 hy.1).k
theorem mulE2 {x y : Nat → Int} {a b : K} (hx : Ik x a) (hy : Ik y b) : Ik (mulFO x y) (a * b) := by
  rw [mulFO_eq, ← hx.2, ← hy.2, ← kk_mul]; exact (mul_i hx.1 hy.1).k
theorem sqE {x : Nat → Int} {a : K} (hx : Ik x a) : Ik (squareFO x) (a * a) := by
  rw [squareFO_eq, ← hx.2, ← kk_mul]; exact (sq_i hx.1).k
theorem negE {x : Nat → Int} {a : K} (hx : Ik x a) : Ik (negFO x) (-a) := by
  rw [negFO_eq, ← hx.2, ← kk_neg]; exact (neg_i hx.1).k
theorem smallE (n : Int) (h0 : 0 ≤ n) (h1 : n < 18446744073709551616) : Ik (smallFO n) (kk n) := by
  rw [smallFO_eq]; exact (small_i n h0 h1).k
theorem invE {x : Nat → Int} {a : K} (hx : Ik x a) : Ik (invertFO x) (ki a) := by
  rw [invertFO_eq, ← hx.2, ← kk_inv]; exact (inv_i hx.1).k
theorem equalE {x y : Nat → Int} {a b : K} (hx : Ik x a) (hy : Ik y b) : equalFO x y = decide (a = b) := by
  rw [equalFO_eq, equal_v hx.1 hy.1, ← hx.2, ← hy.2]; exact decide_eq_decide.2 kk_iff.symm
theorem isZeroE {x : Nat → Int} {a : K} (hx : Ik x a) : isZeroFO x = decide (a = 0) := by
  rw [isZeroFO_eq, isZero_v hx.1, ← hx.2]; exact decide_eq_decide.2 kk_z.symm
theorem isOddE {x : Nat → Int} {a : K} (hx : Ik x a) : isOddFO x = decide (a.val % 2 = 1) := by
  rw [isOddFO_eq, isOdd_v hx.1, ← hx.2, ← kk_val, Bool.eq_iff_iff]
  simp only [beq_iff_eq, decide_eq_true_eq]
  omega

/-! ### Bytes -/
theorem vb_top {b : Nat → Int} (h : B32 b) : vb b = dv 256 31 b + 452312848583266388373324160190187140051835877600158453279131187530910662656 * b 31 ∧ 0 ≤ dv 256 31 b ∧ dv 256 31 b < 452312848583266388373324160190187140051835877600158453279131187530910662656 := by
  have h1 : vb b = dv 256 31 b + pw 256 31 * b 31 := dv_top (n := 31)
  have h2 := dv_bound (B := 256) (n := 31) (a := b) (by omega) (fun i hi => h i (by omega))
  have e : pw 256 31 = 452312848583266388373324160190187140051835877600158453279131187530910662656 := by decide
  rw [e] at h1 h2
  exact ⟨h1, h2⟩
theorem vb_up {b : Nat → Int} (h : B32 b) {c : Int} (hc : 0 ≤ c ∧ c < 256) : B32 (up 31 c b) ∧ vb (up 31 c b) = dv 256 31 b + 452312848583266388373324160190187140051835877600158453279131187530910662656 * c := by
  have hB : B32 (up 31 c b) := fun j hj => by
    rw [up_at]; split
    · exact hc
    · exact h j hj
  refine ⟨hB, ?_⟩
  rw [(vb_top hB).1, up_at, if_pos rfl, dv_congr (b := b) (fun i hi => by rw [up_at, if_neg (by omega)])]
theorem vb_inj {a b : Nat → Int} (ha : B32 a) (hb : B32 b) : eqN 32 a b = decide (vb a = vb b) := by
  rw [Bool.eq_iff_iff, eqN_iff, decide_eq_true_eq]
  constructor
  · exact fun h => dv_congr h
  · exact fun h => dv_inj (by omega) ha hb h
theorem bytesE {x : Nat → Int} {a : K} (hx : Ik x a) : B32 (bytesFO x) ∧ vb (bytesFO x) = (a.val : Int) := by
  have h : ∀ j, j < 32 → bytesFO x j = (a.val : Int) / 256 ^ j % 256 := fun j hj => by rw [bytesFO_eq, bytes_v hx.1 j hj, ← hx.2, kk_val]
  refine ⟨fun j hj => by rw [h j hj]; omega, ?_⟩
  show dv 256 32 _ = _
  rw [dv_congr h, dv_digits (by omega)]
  have := a.isLt
  exact Int.emod_eq_of_lt (by omega) (by rw [show (256 : Int) ^ 32 = 115792089237316195423570985008687907853269984665640564039457584007913129639936 by decide]; omega)
theorem fromBytesE {b : Nat → Int} (h : B32 b) : Ik (fromBytesFO b) (kk (vb b % 57896044618658097711785492504343953926634992332820282019728792003956564819968)) := by
  obtain ⟨f1, f2⟩ := fromBytes_v h
  rw [fromBytesFO_eq]
  exact ⟨f2.u, by rw [f1, kk_iff, me]⟩
theorem canonM {N M : Int} (hM : M = N % 57896044618658097711785492504343953926634992332820282019728792003956564819968 % p) : 0 ≤ M ∧ M < 57896044618658097711785492504343953926634992332820282019728792003956564819949 := by
  subst hM
  exact ⟨Int.emod_nonneg _ (show p ≠ 0 by decide), Int.emod_lt_of_pos _ (show 0 < p by decide)⟩
theorem ltL {N : Int} (h : N < p) : N < 57896044618658097711785492504343953926634992332820282019728792003956564819968 := Int.lt_trans h (by decide)
theorem canonN {N M : Int} (h0 : 0 ≤ N) (hM : M = N % 57896044618658097711785492504343953926634992332820282019728792003956564819968 % p) : M = N ↔ N < p := by
  constructor
  · intro h
    rw [← h, hM]
    exact Int.emod_lt_of_pos _ (show 0 < p by decide)
  · intro h
    rw [hM, Int.emod_eq_of_lt h0 (ltL h), Int.emod_eq_of_lt h0 h]
theorem canon_iff {b : Nat → Int} (h : B32 b) {c : Nat → Int} {N M : Int} (hN : vb b = N) (hM : M = N % 57896044618658097711785492504343953926634992332820282019728792003956564819968 % p) (hc : ∀ j, j < 32 → c j = M / 256 ^ j % 256) : eqN 32 c b = decide (vb b < p) := by
  have hM0 := canonM hM
  have hB : B32 c := fun j hj => by rw [hc j hj]; omega
  have hv : vb c = M := by
    show dv 256 32 _ = _
    rw [dv_congr hc, dv_digits (by omega)]
    exact Int.emod_eq_of_lt (by omega) (by rw [show (256 : Int) ^ 32 = 115792089237316195423570985008687907853269984665640564039457584007913129639936 by decide]; omega)
  have h0 := (vb_bound h).1
  rw [hN] at h0
  rw [vb_inj hB h, hv, hN]
  exact decide_eq_decide.2 (canonN h0 hM)
theorem canonicalE {b : Nat → Int} (h : B32 b) : canonicalFO b = decide (vb b < p) := by
  obtain ⟨f1, f2⟩ := fromBytes_v h
  rw [canonicalFO_eq]
  unfold canonicalF
  generalize hN : vb b = N at f1
  rw [← hN]
  exact canon_iff h hN rfl (fun j hj => by rw [bytes_v f2.u j hj, f1, me])

/-! ### Known numbers -/
theorem U5_of {x : Nat → Int} (h : ∀ j, j < 5 → 0 ≤ x j ∧ x j < 18446744073709551616) : U5 x := h
theorem unitE : Ik unitFO 1 := by
  rw [unitFO_eq]
  exact ⟨fiv (by decide) (by decide) (by decide) (by decide) (by decide), by rw [← kk_1, kk_iff]; decide⟩
theorem zeroE : Ik (fun _ => 0) 0 := ⟨fiv (by decide) (by decide) (by decide) (by decide) (by decide), by rw [← kk_0, kk_iff]; decide⟩
theorem limbsE : Ik limbsFO D := by
  rw [limbsFO_eq]
  exact ⟨fiv (by decide) (by decide) (by decide) (by decide) (by decide), by unfold D; rw [kk_iff]; decide⟩
theorem doubledE : Ik doubledFO (D + D) := by
  rw [doubledFO_eq]
  exact ⟨fiv (by decide) (by decide) (by decide) (by decide) (by decide), by unfold D; rw [← kk_add, kk_iff]; decide⟩
theorem numberE : Ik numberFO D := by
  rw [numberFO_eq]
  unfold numberF
  refine (fromBytesE (by unfold B32; decide)).to ?_
  unfold D
  rw [kk_iff]
  decide
theorem number2E : Ik number2O D := by
  rw [number2O_eq]
  unfold number2
  refine (mulE2 (negE (smallE 121665 (by omega) (by omega))) (invE (smallE 121666 (by omega) (by omega)))).to ?_
  have h0 : kk 121666 ≠ 0 := by rw [Ne, kk_z]; decide
  have h : D * kk 121666 = -kk 121665 := by
    unfold D
    rw [← kk_mul, ← kk_neg, kk_iff]; decide
  have hw := ki_mul h0
  rw [← h]
  generalize ki (kk 121666) = w at *
  generalize kk 121666 = c at *
  generalize D = d at *
  clear h h0
  grind -lia

/-! ### Forms of a point -/
/-- q is a form of the point A. -/
def Fm (q : Nat → Int) (A : Pn) : Prop := ∃ z : K, z ≠ 0 ∧ Ik (sh 0 q) (A.x * z) ∧ Ik (sh 5 q) (A.y * z) ∧ Ik (sh 10 q) z ∧ Ik (sh 15 q) (A.x * A.y * z)
theorem closedE {e f g h : Nat → Int} {a b c d : K} (he : Ik e a) (hf : Ik f b) (hg : Ik g c) (hh : Ik h d) :
    Ik (sh 0 (closedFO e f g h)) (a * b) ∧ Ik (sh 5 (closedFO e f g h)) (c * d) ∧ Ik (sh 10 (closedFO e f g h)) (b * c) ∧ Ik (sh 15 (closedFO e f g h)) (a * d) := by
  rw [closedFO_eq]
  exact ⟨(mulE2 he hf).congr (fiv rfl rfl rfl rfl rfl), (mulE2 hg hh).congr (fiv rfl rfl rfl rfl rfl), (mulE2 hf hg).congr (fiv rfl rfl rfl rfl rfl), (mulE2 he hh).congr (fiv rfl rfl rfl rfl rfl)⟩
theorem two_ne : (2 : K) ≠ 0 := by decide
theorem addP_fm {q r : Nat → Int} {A B : Pn} (hq : Fm q A) (hr : Fm r B) : Fm (addPO q r) (A.add B) := by
  obtain ⟨z, hz, x1, y1, z1, t1⟩ := hq
  obtain ⟨w, hw, x2, y2, z2, t2⟩ := hr
  have ax := add_x A B
  have ay := add_y A B
  obtain ⟨n1, n2⟩ := full A.on B.on
  rw [addPO_eq]
  unfold addP
  have hb := mulE2 (addE y1 x1) (addE y2 x2)
  have ha := mulE2 (subE y1 x1) (subE y2 x2)
  have hd := mulE2 (addE z1 z1) z2
  have hc := mulE2 (mulE2 t1 doubledE) t2
  obtain ⟨h1, h2, h3, h4⟩ := closedE (subE hb ha) (subE hd hc) (addE hd hc) (addE hb ha)
  refine ⟨_, ?_, h1.to ?_, h2.to ?_, h3, h4.to ?_⟩
  · have e : ((z + z) * w - A.x * A.y * z * (D + D) * (B.x * B.y * w)) * ((z + z) * w + A.x * A.y * z * (D + D) * (B.x * B.y * w)) = (2 * 2) * ((z * w) * (z * w)) * ((1 - D * A.x * B.x * A.y * B.y) * (1 + D * A.x * B.x * A.y * B.y)) := by
      generalize D = d
      clear ax ay n1 n2 hb ha hd hc h1 h2 h3 h4 x1 y1 z1 t1 x2 y2 z2 t2
      grind -lia
    rw [e]
    exact k_mul_ne (k_mul_ne (k_mul_ne two_ne two_ne) (k_mul_ne (k_mul_ne hz hw) (k_mul_ne hz hw))) (k_mul_ne n2 n1)
  all_goals
    generalize (A.add B).x = X at *
    generalize (A.add B).y = Y at *
    generalize D = d at *
    clear n1 n2 hb ha hd hc h1 h2 h3 h4 x1 y1 z1 t1 x2 y2 z2 t2
    generalize A.x = a at *
    generalize A.y = b at *
    generalize B.x = a' at *
    generalize B.y = b' at *
    clear A B q r hz hw
  · have e1 : (b * z + a * z) * (b' * w + a' * w) - (b * z - a * z) * (b' * w - a' * w) = 2 * (z * w) * (a * b' + a' * b) := by clear ax ay; grind -lia
    rw [e1, ← ax]
    clear ax ay e1
    grind -lia
  · have e1 : (b * z + a * z) * (b' * w + a' * w) + (b * z - a * z) * (b' * w - a' * w) = 2 * (z * w) * (b * b' + a * a') := by clear ax ay; grind -lia
    rw [e1, ← ay]
    clear ax ay e1
    grind -lia
  · have e1 : (b * z + a * z) * (b' * w + a' * w) - (b * z - a * z) * (b' * w - a' * w) = 2 * (z * w) * (a * b' + a' * b) := by clear ax ay; grind -lia
    have e2 : (b * z + a * z) * (b' * w + a' * w) + (b * z - a * z) * (b' * w - a' * w) = 2 * (z * w) * (b * b' + a * a') := by clear ax ay e1; grind -lia
    rw [e1, e2, ← ax, ← ay]
    clear ax ay e1 e2
    grind -lia
theorem doubleP_fm {q : Nat → Int} {A : Pn} (hq : Fm q A) : Fm (doublePO q) (A.add A) := by
  obtain ⟨z, hz, x1, y1, z1, t1⟩ := hq
  have ax := add_x A A
  have ay := add_y A A
  have on := A.on
  unfold OnK at on
  obtain ⟨n1, n2⟩ := full A.on A.on
  rw [doublePO_eq]
  unfold doubleP
  have hh := addE (sqE x1) (sqE y1)
  have he := subE hh (sqE (addE x1 y1))
  have hg := subE (sqE x1) (sqE y1)
  have hf := addE (addE (sqE z1) (sqE z1)) hg
  obtain ⟨h1, h2, h3, h4⟩ := closedE he hf hg hh
  have eg : A.x * z * (A.x * z) - A.y * z * (A.y * z) = -(1 + D * A.x * A.x * A.y * A.y) * (z * z) := by
    generalize D = d at *
    clear ax ay n1 n2 hh he hg hf h1 h2 h3 h4 x1 y1 z1 t1
    grind -lia
  have ef : z * z + z * z + (A.x * z * (A.x * z) - A.y * z * (A.y * z)) = (1 - D * A.x * A.x * A.y * A.y) * (z * z) := by
    generalize D = d at *
    clear ax ay n1 n2 hh he hg hf h1 h2 h3 h4 x1 y1 z1 t1
    grind -lia
  have eh : A.x * z * (A.x * z) + A.y * z * (A.y * z) = (A.y * A.y + A.x * A.x) * (z * z) := by
    clear on ax ay n1 n2 hh he hg hf h1 h2 h3 h4 x1 y1 z1 t1 eg ef
    grind -lia
  have ee : A.x * z * (A.x * z) + A.y * z * (A.y * z) - (A.x * z + A.y * z) * (A.x * z + A.y * z) = -(A.x * A.y + A.x * A.y) * (z * z) := by
    clear on ax ay n1 n2 hh he hg hf h1 h2 h3 h4 x1 y1 z1 t1 eg ef eh
    grind -lia
  rw [ee, ef, ← ax] at h1
  rw [eg, eh, ← ay] at h2
  rw [ef, eg] at h3
  rw [ee, eh, ← ax, ← ay] at h4
  refine ⟨_, ?_, h1.to ?_, h2.to ?_, h3, h4.to ?_⟩
  · intro h0
    refine k_mul_ne (k_mul_ne n2 (k_mul_ne hz hz)) (k_mul_ne n1 (k_mul_ne hz hz)) ?_
    generalize D = d at *
    clear on ax ay n1 n2 hh he hg hf h1 h2 h3 h4 x1 y1 z1 t1 eg ef eh ee
    grind -lia
  all_goals
    generalize (A.add A).x = X at *
    generalize (A.add A).y = Y at *
    generalize D * A.x * A.x * A.y * A.y = e at *
    clear on ax ay n1 n2 hh he hg hf h1 h2 h3 h4 x1 y1 z1 t1 eg ef eh ee hz
    grind -lia
theorem negP_fm {q : Nat → Int} {A : Pn} (hq : Fm q A) : Fm (negPO q) A.neg := by
  obtain ⟨z, hz, x1, y1, z1, t1⟩ := hq
  rw [negPO_eq]
  have nx := negE x1
  have nt := negE t1
  refine ⟨z, hz, nx.as (fiv rfl rfl rfl rfl rfl) ?_, y1.congr (fiv rfl rfl rfl rfl rfl), z1.congr (fiv rfl rfl rfl rfl rfl), nt.as (fiv rfl rfl rfl rfl rfl) ?_⟩
  · show -(A.x * z) = -A.x * z
    clear nx nt x1 y1 z1 t1; grind -lia
  · show -(A.x * A.y * z) = -A.x * A.y * z
    clear nx nt x1 y1 z1 t1; grind -lia
theorem zeroP_fm : Fm zeroPO .zero := by
  rw [zeroPO_eq]
  refine ⟨1, by decide, zeroE.as (fiv rfl rfl rfl rfl rfl) ?_, unitE.as (fiv rfl rfl rfl rfl rfl) ?_, unitE.congr (fiv rfl rfl rfl rfl rfl), zeroE.as (fiv rfl rfl rfl rfl rfl) ?_⟩ <;> decide
/-- The base point. -/
noncomputable def Bp : Pn := ⟨kk 15112221349535400772501151409588531511454012693041857206046113283949847762202, kk 46316835694926478169428394003475163141307993866256225615783033603165251855960, by
  unfold OnK D
  rw [← kk_1]
  simp only [← kk_mul, ← kk_add, ← kk_sub]
  rw [kk_iff]; decide⟩
theorem startP_fm : Fm startPO Bp := by
  rw [startPO_eq]
  have hx := fromBytesE (b := up 31 33 (up 30 105 (up 29 54 (up 28 211 (up 27 205 (up 26 110 (up 25 83 (up 24 254 (up 23 192 (up 22 164 (up 21 226 (up 20 49 (up 19 253 (up 18 214 (up 17 220 (up 16 92 (up 15 105 (up 14 44 (up 13 199 (up 12 96 (up 11 149 (up 10 37 (up 9 167 (up 8 178 (up 7 201 (up 6 86 (up 5 45 (up 4 96 (up 3 143 (up 2 37 (up 1 213 (up 0 26 (fun _ => 0))))))))))))))))))))))))))))))))) (by unfold B32; decide)
  have hy := fromBytesE (b := up 31 102 (up 30 102 (up 29 102 (up 28 102 (up 27 102 (up 26 102 (up 25 102 (up 24 102 (up 23 102 (up 22 102 (up 21 102 (up 20 102 (up 19 102 (up 18 102 (up 17 102 (up 16 102 (up 15 102 (up 14 102 (up 13 102 (up 12 102 (up 11 102 (up 10 102 (up 9 102 (up 8 102 (up 7 102 (up 6 102 (up 5 102 (up 4 102 (up 3 102 (up 2 102 (up 1 102 (up 0 88 (fun _ => 0))))))))))))))))))))))))))))))))) (by unfold B32; decide)
  have ht := mulE2 hx hy
  have one : (1 : K) ≠ 0 := by decide
  have e1 : ∀ k : K, k = k * 1 := fun k => (Fin.mul_one k).symm
  refine ⟨1, one, hx.as (fiv rfl rfl rfl rfl rfl) ?_, hy.as (fiv rfl rfl rfl rfl rfl) ?_, unitE.congr (fiv rfl rfl rfl rfl rfl), ht.as (fiv rfl rfl rfl rfl rfl) ?_⟩
  · refine Eq.trans ?_ (e1 _)
    show _ = kk _
    rw [kk_iff]; decide
  · refine Eq.trans ?_ (e1 _)
    show _ = kk _
    rw [kk_iff]; decide
  · refine Eq.trans ?_ (e1 _)
    show _ = kk _ * kk _
    rw [← kk_mul, ← kk_mul, kk_iff]; decide
theorem baseP_fm : Fm basePO Bp := by
  rw [basePO_eq]; exact startP_fm
theorem equalP_iff {q r : Nat → Int} {A B : Pn} (hq : Fm q A) (hr : Fm r B) : equalPO q r = true ↔ A = B := by
  obtain ⟨z, hz, x1, y1, z1, t1⟩ := hq
  obtain ⟨w, hw, x2, y2, z2, t2⟩ := hr
  rw [equalPO_eq]
  unfold equalP
  rw [equalE (mulE2 x1 z2) (mulE2 x2 z1), equalE (mulE2 y1 z2) (mulE2 y2 z1)]
  have c : ∀ a b : K, a * z * w = b * w * z ↔ a = b := fun a b => by
    constructor
    · intro h
      refine k_cancel (k_mul_ne hz hw) ?_
      clear x1 y1 z1 t1 x2 y2 z2 t2
      grind -lia
    · intro h
      subst h
      clear x1 y1 z1 t1 x2 y2 z2 t2
      grind -lia
  by_cases hx : A.x = B.x
  · rw [decide_eq_true ((c _ _).2 hx), cond_true, decide_eq_true_eq, c]
    exact ⟨fun h => Pn.ext' hx h, fun h => by rw [h]⟩
  · rw [decide_eq_false (fun h => hx ((c _ _).1 h)), cond_false]
    exact ⟨fun h => absurd h (by simp), fun h => absurd (by rw [h]) hx⟩
theorem onP_of {q : Nat → Int} {A : Pn} (hq : Fm q A) : onPO q = true := by
  obtain ⟨z, hz, x1, y1, z1, t1⟩ := hq
  have on := A.on
  unfold OnK at on
  rw [onPO_eq]
  unfold onP
  rw [isZeroE z1, decide_eq_false hz, equalE (mulE2 x1 y1) (mulE2 z1 t1), equalE (subE (sqE y1) (sqE x1)) (addE (sqE z1) (mulE2 numberE (sqE t1)))]
  have e1 : A.x * z * (A.y * z) = z * (A.x * A.y * z) := by clear on x1 y1 z1 t1; grind -lia
  have e2 : A.y * z * (A.y * z) - A.x * z * (A.x * z) = z * z + D * (A.x * A.y * z * (A.x * A.y * z)) := by
    generalize D = d at *
    clear x1 y1 z1 t1 e1; grind -lia
  rw [decide_eq_true e1, decide_eq_true e2]; rfl
/-- The four coordinates are limbs that uint64 holds. -/
def U20 (q : Nat → Int) : Prop := U5 (sh 0 q) ∧ U5 (sh 5 q) ∧ U5 (sh 10 q) ∧ U5 (sh 15 q)
theorem onP_point {q : Nat → Int} (hu : U20 q) (h : onPO q = true) : ∃ A, Fm q A := by
  obtain ⟨u0, u5, u10, u15⟩ := hu
  have x1 : Ik (sh 0 q) _ := ⟨u0, rfl⟩
  have y1 : Ik (sh 5 q) _ := ⟨u5, rfl⟩
  have z1 : Ik (sh 10 q) _ := ⟨u10, rfl⟩
  have t1 : Ik (sh 15 q) _ := ⟨u15, rfl⟩
  generalize kk (v5 (sh 0 q)) = X at x1
  generalize kk (v5 (sh 5 q)) = Y at y1
  generalize kk (v5 (sh 10 q)) = Z at z1
  generalize kk (v5 (sh 15 q)) = T at t1
  rw [onPO_eq] at h
  unfold onP at h
  rw [isZeroE z1, equalE (mulE2 x1 y1) (mulE2 z1 t1), equalE (subE (sqE y1) (sqE x1)) (addE (sqE z1) (mulE2 numberE (sqE t1)))] at h
  by_cases h0 : Z = 0
  · rw [decide_eq_true h0] at h; exact absurd h (by simp)
  rw [decide_eq_false h0, Bool.not_false, cond_true] at h
  by_cases h1 : X * Y = Z * T
  · rw [decide_eq_true h1, cond_true, decide_eq_true_eq] at h
    have hw := ki_mul h0
    generalize ki Z = w at hw
    refine ⟨⟨X * w, Y * w, ?_⟩, Z, h0, x1.to ?_, y1.to ?_, z1, t1.to ?_⟩
    · unfold OnK
      generalize D = d at *
      clear x1 y1 z1 t1 u0 u5 u10 u15 h0
      have e1 : Y * w * (Y * w) - X * w * (X * w) = (Y * Y - X * X) * (w * w) := by clear h h1 hw; grind -lia
      have e2 : 1 + d * (X * w) * (X * w) * (Y * w) * (Y * w) = 1 + d * (X * Y * w) * (X * Y * w) * (w * w) := by clear h h1 hw e1; grind -lia
      rw [e1, h, e2, h1]
      clear h h1 e1 e2
      grind -lia
    · show X = X * w * Z
      clear x1 y1 z1 t1 h; grind -lia
    · show Y = Y * w * Z
      clear x1 y1 z1 t1 h; grind -lia
    · show T = X * w * (Y * w) * Z
      clear x1 y1 z1 t1 h; grind -lia
  · rw [decide_eq_false h1] at h; exact absurd h (by simp)
end Go.Proofs.Ytbnclikjbnfodaa

/-
  A point's encoding is one number; Encode tells it, Decode reads it. Conditions: none.
-/
namespace Go.Proofs.Ytbnclikjbnfodaa
set_option maxRecDepth 100000
open Go.Ev Go.Num

/-- The number that a point's encoding is. -/
def en (A : Pn) : Int := (A.y.val : Int) + 57896044618658097711785492504343953926634992332820282019728792003956564819968 * ((A.x.val : Int) % 2)
theorem or128 {a : Int} (h : 0 ≤ a ∧ a < 128) : orI .u8 a 128 = a + 128 := by
  have all : ∀ n : Fin 128, orI .u8 (n.val : Int) 128 = (n.val : Int) + 128 := by decide
  have := all ⟨a.toNat, by omega⟩
  rwa [show ((a.toNat : Nat) : Int) = a by omega] at this
theorem encE {q : Nat → Int} {A : Pn} (hq : Fm q A) : B32 (encodePO q) ∧ vb (encodePO q) = en A := by
  obtain ⟨z, hz, x1, y1, z1, t1⟩ := hq
  have hw := ki_mul hz
  have xx : Ik (mulFO (sh 0 q) (invertFO (sh 10 q))) A.x := (mulE2 x1 (invE z1)).to (by
    clear x1 y1 z1 t1; generalize ki z = w at *; grind -lia)
  have yy : Ik (mulFO (sh 5 q) (invertFO (sh 10 q))) A.y := (mulE2 y1 (invE z1)).to (by
    clear x1 y1 z1 t1 xx; generalize ki z = w at *; grind -lia)
  rw [encodePO_eq]
  unfold encodeP en
  obtain ⟨bB, bv⟩ := bytesE yy
  have top := vb_top bB
  have hy := A.y.isLt
  have b31 := bB 31 (by omega)
  generalize bytesFO (mulFO (sh 5 q) (invertFO (sh 10 q))) = c at *
  rw [isOddE xx]
  by_cases h : A.x.val % 2 = 1
  · rw [decide_eq_true h, cond_true]
    have hlt : c 31 < 128 := by omega
    rw [or128 ⟨b31.1, hlt⟩]
    obtain ⟨u1, u2⟩ := vb_up bB (c := c 31 + 128) (by omega)
    exact ⟨u1, by omega⟩
  · rw [decide_eq_false h, cond_false]
    exact ⟨bB, by omega⟩

theorem k_val {a b : K} : (a.val : Int) = b.val ↔ a = b := ⟨fun h => Fin.ext (by omega), fun h => by rw [h]⟩
theorem neg_val (k : K) : ((-k : K).val : Int) = (-(k.val : Int)) % p := by rw [← kk_val, kk_neg, kk_of]
theorem k_cancel' {a b c : K} (hc : c ≠ 0) (h : c * a = c * b) : a = b := k_cancel hc (by rw [Fin.mul_comm a, h, Fin.mul_comm])
theorem k_sq {a b : K} (h : a * a = b * b) : a = b ∨ a = -b := by
  have h' : (a - b) * (a + b) = 0 := by grind -lia
  rcases k_mul_zero h' with h | h
  · exact .inl (by grind -lia)
  · exact .inr (by grind -lia)
/-- The equation's denominator is not 0. -/
theorem dy_ne (y : K) : D * (y * y) + 1 ≠ 0 := by
  intro h
  have hy : y ≠ 0 := fun h0 => by
    rw [h0] at h
    generalize D = d at *
    have : (1 : K) = 0 := by grind -lia
    exact absurd this (by decide)
  have hw := ki_mul hy
  have hi := I_sq
  generalize ki y = w at *
  refine D_sq (I * w) ?_
  generalize D = d at *
  generalize I = i at *
  grind -lia
theorem on_iff {x y : K} : OnK x y ↔ (D * (y * y) + 1) * (x * x) = y * y - 1 := by
  unfold OnK
  generalize D = d
  constructor <;> intro h <;> grind -lia
theorem en_y {A : Pn} {N : Int} (h : N = en A) : (A.y.val : Int) = N % 57896044618658097711785492504343953926634992332820282019728792003956564819968 ∧ (A.x.val : Int) % 2 = N / 57896044618658097711785492504343953926634992332820282019728792003956564819968 := by
  unfold en at h
  have := A.y.isLt
  omega
/-- No two numbers other than 0 that are opposite are even. -/
theorem odd_neg {k : K} (h : k ≠ 0) : ((-k : K).val : Int) % 2 = 1 - (k.val : Int) % 2 := by
  rw [neg_val]
  have h0 : k.val ≠ 0 := fun h0 => h (Fin.ext h0)
  have := k.isLt
  unfold p
  omega
theorem x_of {x x' y : K} (h : OnK x y) (h' : OnK x' y) (hp : (x.val : Int) % 2 = (x'.val : Int) % 2) : x = x' := by
  have e : x * x = x' * x' := by
    refine k_cancel' (dy_ne y) ?_
    rw [on_iff.1 h, on_iff.1 h']
  rcases k_sq e with h | h
  · exact h
  · by_cases h0 : x' = 0
    · rw [h, h0]; decide
    · exfalso
      rw [h, odd_neg h0] at hp
      omega
theorem en_inj {A B : Pn} (h : en A = en B) : A = B := by
  obtain ⟨a1, a2⟩ := en_y (A := A) rfl
  obtain ⟨b1, b2⟩ := en_y h
  have hy : A.y = B.y := k_val.1 (by omega)
  have hA := A.on
  rw [hy] at hA
  exact Pn.ext' (x_of hA B.on (by omega)) hy

theorem sqrtE {u v : Nat → Int} {a b : K} (hu : Ik u a) (hv : Ik v b) (hb : b ≠ 0) :
    (∃ k, (sqrtFO u v).2 = true ∧ Ik (sqrtFO u v).1 k ∧ b * (k * k) = a ∧ (k.val : Int) % 2 = 0) ∨ ((sqrtFO u v).2 = false ∧ ∀ k, b * (k * k) ≠ a) := by
  rw [sqrtFO_eq]
  obtain ⟨s1, s2⟩ := sqrt_v hu.1 hv.1
  have hV : v5 v % p ≠ 0 := fun h => hb (by rw [← hv.2]; exact kk_z.2 h)
  rw [s2]
  cases h : (sqZ (v5 u) (v5 v)).2 with
  | true =>
    obtain ⟨r1, r2⟩ := sq_ok hV h
    refine .inl ⟨_, rfl, s1.k, ?_, ?_⟩
    · rw [← hv.2, ← hu.2, ← kk_mul, ← kk_mul]
      exact kk_iff.2 r1
    · rw [kk_val]; exact r2
  | false =>
    refine .inr ⟨rfl, fun k e => ?_⟩
    rw [← hv.2, ← hu.2, ← kk_of k, ← kk_mul, ← kk_mul, kk_iff] at e
    have := sq_square hV (show Eqp _ _ from e.symm)
    rw [h] at this
    cases this

theorem four_fm {xa ya ta : Nat → Int} {x y : K} (hx : Ik xa x) (hy : Ik ya y) (ht : Ik ta (x * y)) (on : OnK x y) :
    Fm (spl 15 5 20 ta (spl 10 5 20 unitFO (spl 5 5 20 ya (spl 0 5 20 xa (fun _ => 0))))) ⟨x, y, on⟩ := by
  have e1 : ∀ k : K, k = k * 1 := fun k => (Fin.mul_one k).symm
  exact ⟨1, by decide, hx.as (fiv rfl rfl rfl rfl rfl) (e1 _), hy.as (fiv rfl rfl rfl rfl rfl) (e1 _), unitE.congr (fiv rfl rfl rfl rfl rfl), ht.as (fiv rfl rfl rfl rfl rfl) (e1 _)⟩

/-- What Decode reads. -/
theorem decE {b : Nat → Int} (hb : B32 b) : (∃ A, (decodePO b).2 = true ∧ Fm (decodePO b).1 A ∧ vb b = en A) ∨
    ((decodePO b).2 = false ∧ (decodePO b).1 = (fun _ => 0) ∧ ∀ A, vb b ≠ en A) := by
  have top := vb_top hb
  have b31 := hb 31 (by omega)
  have hs : shrI .u8 (b 31) 7 = b 31 / 128 := shrU8 (b 31) 7 (by omega)
  have ha : andI .u8 (b 31) 127 = b 31 % 128 := and8_7 _
  rw [decodePO_eq]
  unfold decodeP
  rw [hs, ha]
  obtain ⟨cB, cv⟩ := vb_up hb (c := b 31 % 128) (by omega)
  generalize hc : up 31 (b 31 % 128) b = c at *
  have cN : vb c = vb b % 57896044618658097711785492504343953926634992332820282019728792003956564819968 := by omega
  rw [canonicalE cB]
  by_cases hcan : vb c < p
  rotate_left
  · rw [decide_eq_false hcan, Bool.not_false, cond_true]
    refine .inr ⟨rfl, rfl, fun A hA => hcan ?_⟩
    have := (en_y hA).1
    have := A.y.isLt
    unfold p
    omega
  rw [decide_eq_true hcan, Bool.not_true, cond_false]
  have c0 := (vb_bound cB).1
  have hy : Ik (fromBytesFO c) (kk (vb c)) := (fromBytesE cB).to (by
    rw [Int.emod_eq_of_lt c0 (by unfold p at hcan; omega)])
  have yv : ((kk (vb c)).val : Int) = vb c := by rw [kk_val]; exact Int.emod_eq_of_lt c0 hcan
  generalize hyk : kk (vb c) = y at *
  generalize fromBytesFO c = ya at *
  have hu := subE (sqE hy) unitE
  have hv := addE (mulE2 limbsE (sqE hy)) unitE
  have uni : ∀ A : Pn, vb b = en A → A.y = y ∧ (D * (y * y) + 1) * (A.x * A.x) = y * y - 1 ∧ (A.x.val : Int) % 2 = b 31 / 128 := by
    intro A hA
    obtain ⟨a1, a2⟩ := en_y hA
    have e : A.y = y := k_val.1 (by omega)
    refine ⟨e, ?_, by omega⟩
    rw [← e]
    exact on_iff.1 A.on
  rcases sqrtE hu hv (dy_ne y) with ⟨k, h1, h2, h3, h4⟩ | ⟨h1, h2⟩
  rotate_left
  · rw [h1, Bool.not_false, cond_true]
    exact .inr ⟨rfl, rfl, fun A hA => h2 _ (uni A hA).2.1⟩
  rw [h1, Bool.not_true, cond_false]
  generalize (sqrtFO (subFO (squareFO ya) unitFO) (addFO (mulFO limbsFO (squareFO ya)) unitFO)).1 = r at *
  have on : OnK k y := on_iff.2 h3
  by_cases odd : b 31 / 128 = 1
  · rw [show (b 31 / 128 == 1) = true by simpa using odd, cond_true, cond_true, isZeroE h2]
    by_cases k0 : k = 0
    · rw [decide_eq_true k0, cond_true]
      refine .inr ⟨rfl, rfl, fun A hA => ?_⟩
      obtain ⟨_, g1, g2⟩ := uni A hA
      have : A.x * A.x = 0 * 0 := by
        refine k_cancel' (dy_ne y) ?_
        rw [g1, ← h3, k0]
      have hx : A.x = 0 := by
        rcases k_mul_zero (this.trans (Fin.mul_zero 0)) with h | h <;> exact h
      rw [hx] at g2
      have z : (((0 : K).val : Nat) : Int) % 2 = 0 := by decide
      omega
    · rw [decide_eq_false k0, cond_false]
      have onn : OnK (-k) y := by
        unfold OnK at *
        generalize D = d at *
        clear uni
        grind -lia
      refine .inl ⟨⟨-k, y, onn⟩, rfl, four_fm (negE h2) hy (mulE2 (negE h2) hy) onn, ?_⟩
      have o := odd_neg k0
      show _ = (y.val : Int) + _ * (((-k : K).val : Int) % 2)
      omega
  · rw [show (b 31 / 128 == 1) = false by simpa using odd, cond_false, cond_false]
    refine .inl ⟨⟨k, y, on⟩, rfl, four_fm h2 hy (mulE2 h2 hy) on, ?_⟩
    show _ = (y.val : Int) + _ * ((k.val : Int) % 2)
    omega

/-- The point that a key tells, or the base point. -/
theorem pointE {b : Nat → Int} (hb : B32 b) : ∃ A, Fm (pointPO b) A := by
  rw [pointPO_eq]
  unfold pointP
  rcases decE hb with ⟨A, h1, h2, _⟩ | ⟨h1, h2, _⟩
  · rw [h1]; exact ⟨A, h2⟩
  · rw [h1]; exact ⟨Bp, baseP_fm⟩
theorem lives_true : livesO = true := by
  rw [livesO_eq]
  unfold lives
  have h2 : equalPO basePO zeroPO = false := Bool.eq_false_iff.2 fun h => by
    have := (equalP_iff baseP_fm zeroP_fm).1 h
    have hx : Bp.x = Pn.zero.x := by rw [this]
    revert hx
    show kk _ ≠ 0
    rw [Ne, kk_z]; decide
  have h3 : equalPO basePO (negPO basePO) = false := Bool.eq_false_iff.2 fun h => by
    have := (equalP_iff baseP_fm (negP_fm baseP_fm)).1 h
    have hx : Bp.x = Bp.neg.x := by rw [← this]
    revert hx
    show kk _ ≠ -kk _
    rw [Ne, ← kk_neg, kk_iff]; decide
  have h4 : onPO (fun _ => 0) = false := by
    rw [onPO_eq]
    unfold onP
    rw [isZeroE (zeroE.congr (y := sh 10 (fun _ => 0)) (fiv rfl rfl rfl rfl rfl))]
    rfl
  rw [onP_of baseP_fm, h2, h3, h4]
  rfl
theorem flatE {q : Nat → Int} {A : Pn} (hq : Fm q A) : Ik (flatPO q).1 A.x ∧ Ik (flatPO q).2 A.y := by
  obtain ⟨z, hz, x1, y1, z1, t1⟩ := hq
  have hw := ki_mul hz
  rw [flatPO_eq]
  unfold flatP
  have m1 := mulE2 x1 (invE z1)
  have m2 := mulE2 y1 (invE z1)
  generalize ki z = w at *
  refine ⟨m1.to ?_, m2.to ?_⟩
  · clear m1 m2 x1 y1 z1 t1; grind -lia
  · clear m1 m2 x1 y1 z1 t1; grind -lia
theorem onLaw_true {q : Nat → Int} {A : Pn} (hq : Fm q A) : onLawPO q = true := by
  obtain ⟨f1, f2⟩ := flatE hq
  obtain ⟨z, hz, x1, y1, z1, t1⟩ := hq
  have hw := ki_mul hz
  have on := A.on
  rw [onLawPO_eq]
  unfold onLawP
  have one := smallE 1 (by omega) (by omega)
  rw [kk_1] at one
  rw [isZeroE z1, decide_eq_false hz, equalE (subE (sqE f2) (sqE f1)) (addE one (mulE2 number2E (mulE2 (sqE f1) (sqE f2)))), equalE (mulE2 t1 (invE z1)) (mulE2 f1 f2)]
  have e1 : A.y * A.y - A.x * A.x = 1 + D * (A.x * A.x * (A.y * A.y)) := by
    unfold OnK at on
    generalize D = d at *
    clear x1 y1 z1 t1 f1 f2 one
    grind -lia
  have e2 : A.x * A.y * z * ki z = A.x * A.y := by
    generalize ki z = w at *
    clear x1 y1 z1 t1 f1 f2 one on e1
    grind -lia
  rw [decide_eq_true e1, decide_eq_true e2]
  rfl
end Go.Proofs.Ytbnclikjbnfodaa

namespace Go.Proofs.Ytbnclikjbnfodaa
open Go.Ev
theorem multP_h (q : (Nat → Int)) (N : Nat) (K : V → List V → Prop) : awp Try.prog o71O noG N (body Try.f101) (ends Try.prog Try.f101 K) ⟨[(V.ints .u64 20 q)] ++ List.replicate 19 V.un, []⟩ = lp (awp Try.prog o71O noG N (loopOf (body Try.f101))) (spineQ Try.prog o71O noG N (body Try.f101) (ends Try.prog Try.f101 K)) N ⟨[(V.ints .u64 20 q), (V.ptr 0 0), (V.ptr 1 0), (V.ptr 2 0), V.un, (V.ints .u64 20 zeroPO), (V.ptr 2 0), (V.int .i64 0), V.un, V.un, V.un, V.un, V.un, V.un, V.un, V.un, V.un, V.un, V.un, V.un], [(V.ints .u64 20 q), (V.ints .u64 320 (fun _ => 0)), (V.ints .u64 320 (spl 0 20 320 zeroPO (fun _ => 0)))]⟩ := by kernel_rfl
theorem multP_s (q : (Nat → Int)) (a : Nat → Int) (i : Int) (t4 t8 t9 t10 t11 t12 t13 t14 t15 t16 t17 t18 : V) (Q : Exit → St → Prop) (n : Nat) : lp (awp Try.prog o71O noG 300 (loopOf (body Try.f101))) Q (n + 1) ⟨[(V.ints .u64 20 q), (V.ptr 0 0), (V.ptr 1 0), (V.ptr 2 0), t4, (V.ints .u64 20 zeroPO), (V.ptr 2 0), (V.int .i64 i), t8, t9, t10, t11, t12, t13, t14, t15, t16, t17, t18, V.un], [(V.ints .u64 20 q), (V.ints .u64 320 (fun _ => 0)), (V.ints .u64 320 a)]⟩ = (mB (decide (i < 15)) (gB (decide (0 ≤ i ∧ i < 16)) (gB (Nat.ble ((0 + (Int.toNat i * 20)) + 20) 320) (gB (decide (0 ≤ (addI .i64 i 1) ∧ (addI .i64 i 1) < 16)) (gB (Nat.ble ((0 + (Int.toNat (addI .i64 i 1) * 20)) + 20) 320) (lp (awp Try.prog o71O noG 300 (loopOf (body Try.f101))) Q n ⟨[(V.ints .u64 20 q), (V.ptr 0 0), (V.ptr 1 0), (V.ptr 2 0), (V.int .i64 i), (V.ints .u64 20 zeroPO), (V.ptr 2 0), (V.int .i64 (addI .i64 i 1)), (V.bool (decide (i < 15))), (V.int .i64 i), (V.int .i64 i), (V.int .i64 (addI .i64 i 1)), (V.int .i64 i), (V.ptr 2 (0 + (Int.toNat i * 20))), (V.ints .u64 20 (sh (0 + (Int.toNat i * 20)) a)), (V.ints .u64 20 q), (V.ints .u64 20 (addPO (sh (0 + (Int.toNat i * 20)) a) q)), (V.ptr 2 (0 + (Int.toNat (addI .i64 i 1) * 20))), (V.int .i64 (addI .i64 i 1)), V.un], [(V.ints .u64 20 q), (V.ints .u64 320 (fun _ => 0)), (V.ints .u64 320 (spl (0 + (Int.toNat (addI .i64 i 1) * 20)) 20 320 (addPO (sh (0 + (Int.toNat i * 20)) a) q) a))]⟩))))) (Q (.exit 0) ⟨[(V.ints .u64 20 q), (V.ptr 0 0), (V.ptr 1 0), (V.ptr 2 0), t4, (V.ints .u64 20 zeroPO), (V.ptr 2 0), (V.int .i64 i), (V.bool (decide (i < 15))), t9, t10, t11, t12, t13, t14, t15, t16, t17, t18, V.un], [(V.ints .u64 20 q), (V.ints .u64 320 (fun _ => 0)), (V.ints .u64 320 a)]⟩)) := by kernel_rfl
theorem multP_x (q : (Nat → Int)) (a : Nat → Int) (i : Int) (t4 t8 t9 t10 t11 t12 t13 t14 t15 t16 t17 t18 : V) (R : V) : spineQ Try.prog o71O noG 300 (body Try.f101) (ends Try.prog Try.f101 fun v _ => okV R v) (.exit 0) ⟨[(V.ints .u64 20 q), (V.ptr 0 0), (V.ptr 1 0), (V.ptr 2 0), t4, (V.ints .u64 20 zeroPO), (V.ptr 2 0), (V.int .i64 i), t8, t9, t10, t11, t12, t13, t14, t15, t16, t17, t18, V.un], [(V.ints .u64 20 q), (V.ints .u64 320 (fun _ => 0)), (V.ints .u64 320 a)]⟩ = (okV R (V.ints .u64 320 a)) := by kernel_rfl

/-- The content behind one round more. -/
noncomputable def multP_st (q : (Nat → Int)) (i : Int) (a : Nat → Int) : Nat → Int := (spl (0 + (Int.toNat (addI .i64 i 1) * 20)) 20 320 (addPO (sh (0 + (Int.toNat i * 20)) a) q) a)
noncomputable def multP_it (q : (Nat → Int)) : Nat → (Nat → Int)
  | 0 => (spl 0 20 320 zeroPO (fun _ => 0))
  | k + 1 => multP_st q (k : Int) (multP_it q k)
theorem multP_l (q : (Nat → Int)) (Q : Exit → St → Prop) (hQ : ∀ (t4 t8 t9 t10 t11 t12 t13 t14 t15 t16 t17 t18 : V), Q (.exit 0) ⟨[(V.ints .u64 20 q), (V.ptr 0 0), (V.ptr 1 0), (V.ptr 2 0), t4, (V.ints .u64 20 zeroPO), (V.ptr 2 0), (V.int .i64 ((15 : Nat) : Int)), t8, t9, t10, t11, t12, t13, t14, t15, t16, t17, t18, V.un], [(V.ints .u64 20 q), (V.ints .u64 320 (fun _ => 0)), (V.ints .u64 320 (multP_it q 15))]⟩) : ∀ (d k n : Nat), k + d = 15 → d + 1 ≤ n → ∀ (t4 t8 t9 t10 t11 t12 t13 t14 t15 t16 t17 t18 : V), lp (awp Try.prog o71O noG 300 (loopOf (body Try.f101))) Q n ⟨[(V.ints .u64 20 q), (V.ptr 0 0), (V.ptr 1 0), (V.ptr 2 0), t4, (V.ints .u64 20 zeroPO), (V.ptr 2 0), (V.int .i64 (k : Int)), t8, t9, t10, t11, t12, t13, t14, t15, t16, t17, t18, V.un], [(V.ints .u64 20 q), (V.ints .u64 320 (fun _ => 0)), (V.ints .u64 320 (multP_it q k))]⟩
  | 0, k, n, hk, hn, t4, t8, t9, t10, t11, t12, t13, t14, t15, t16, t17, t18 => by
    obtain ⟨n, rfl⟩ : ∃ m, n = m + 1 := ⟨n - 1, by omega⟩
    obtain rfl : k = 15 := by omega
    rw [multP_s]
    refine mBt (fun h => absurd (of_decide_eq_true h) (by simp)) (fun _ => ?_)
    exact hQ _ _ _ _ _ _ _ _ _ _ _ _
  | d + 1, k, n, hk, hn, t4, t8, t9, t10, t11, t12, t13, t14, t15, t16, t17, t18 => by
    obtain ⟨n, rfl⟩ : ∃ m, n = m + 1 := ⟨n - 1, by omega⟩
    have hi : (0 : Int) ≤ (k : Int) ∧ (k : Int) < 15 := by omega
    have g0 : (decide (0 ≤ (k : Int) ∧ (k : Int) < 16)) = true := by first | exact decide_eq_true (by omega) | (rw [show Int.toNat (k : Int) = k from Int.toNat_natCast k]; exact bleT.2 (by omega)) | (rw [add1_nat k (by omega)]; exact decide_eq_true (by omega)) | (rw [add1_nat k (by omega), Int.toNat_natCast]; exact bleT.2 (by omega))
    have g1 : (Nat.ble ((0 + (Int.toNat (k : Int) * 20)) + 20) 320) = true := by first | exact decide_eq_true (by omega) | (rw [show Int.toNat (k : Int) = k from Int.toNat_natCast k]; exact bleT.2 (by omega)) | (rw [add1_nat k (by omega)]; exact decide_eq_true (by omega)) | (rw [add1_nat k (by omega), Int.toNat_natCast]; exact bleT.2 (by omega))
    have g2 : (decide (0 ≤ (addI .i64 (k : Int) 1) ∧ (addI .i64 (k : Int) 1) < 16)) = true := by first | exact decide_eq_true (by omega) | (rw [show Int.toNat (k : Int) = k from Int.toNat_natCast k]; exact bleT.2 (by omega)) | (rw [add1_nat k (by omega)]; exact decide_eq_true (by omega)) | (rw [add1_nat k (by omega), Int.toNat_natCast]; exact bleT.2 (by omega))
    have g3 : (Nat.ble ((0 + (Int.toNat (addI .i64 (k : Int) 1) * 20)) + 20) 320) = true := by first | exact decide_eq_true (by omega) | (rw [show Int.toNat (k : Int) = k from Int.toNat_natCast k]; exact bleT.2 (by omega)) | (rw [add1_nat k (by omega)]; exact decide_eq_true (by omega)) | (rw [add1_nat k (by omega), Int.toNat_natCast]; exact bleT.2 (by omega))
    have hnx : (addI .i64 (k : Int) 1) = ((k + 1 : Nat) : Int) := by exact add1_nat k (by omega)
    rw [multP_s]
    refine mBt (fun _ => ?_) (fun h => absurd hi.2 (of_decide_eq_false h))
    refine gm g0 ?_
    refine gm g1 ?_
    refine gm g2 ?_
    refine gm g3 ?_
    rw [hnx]
    have h := multP_l q Q hQ d (k + 1) n (by omega) (by omega)
    simp only [multP_it, multP_st] at h
    rw [hnx] at h
    exact h _ _ _ _ _ _ _ _ _ _ _ _

noncomputable def multP (q : Nat → Int) : Nat → Int := multP_it q 15
theorem multP_a (q : (Nat → Int)) : awp Try.prog o71O noG 300 (body Try.f101) (ends Try.prog Try.f101 fun v _ => okV (V.ints .u64 320 (multP q)) v) ⟨[(V.ints .u64 20 q)] ++ List.replicate 19 V.un, []⟩ := by
  rw [multP_h]
  exact multP_l q _ (fun _ _ _ _ _ _ _ _ _ _ _ _ => by rw [multP_x]; exact okV_refl rfl) 15 0 300 (by omega) (by omega) _ _ _ _ _ _ _ _ _ _ _ _

noncomputable def g101 : List V → Option (Bool × V) := fun | [.ints .u64 20 q] => some (true, (V.ints .u64 320 (multP q))) | _ => none
theorem multP_p (q : (Nat → Int)) : (∀ μ μ', V.den μ' (V.ints .u64 320 (multP q)) = V.den μ (V.ints .u64 320 (multP q))) ∧ ∀ μ w, PureAt Try.prog 101 (([(V.ints .u64 20 q)] : List V).map (V.den μ)).toArray (V.den μ (V.ints .u64 320 (multP q))) w :=
  pure_ok (F := o71O) (N := 300) (fn := Try.f101) (args := [(V.ints .u64 20 q)]) (r := (V.ints .u64 320 (multP q))) (n := 19) hM o71O_ok (noG_ok _) Try.func101 (by kernel_rfl) (by kernel_rfl) (by kernel_rfl) (by kernel_rfl) (multP_a q) (by kernel_rfl)
theorem g101_ok (vs : List V) (v : V) (h : g101 vs = some (true, v)) : (∀ μ μ', v.den μ' = v.den μ) ∧ ∀ μ w, PureAt Try.prog 101 (vs.map (V.den μ)).toArray (v.den μ) w := by
  unfold g101 at h
  split at h
  · simp only [Option.some.injEq, Prod.mk.injEq, true_and] at h
    subst h
    exact multP_p _
  · simp at h
noncomputable def o101 : Orc := ext 101 g101 o71O
theorem o101_ok : OrcOK Try.prog o101 := ext_ok o71O_ok g101_ok

theorem multPO_ex : ∃ f : (Nat → Int) → (Nat → Int), f = multP := ⟨_, rfl⟩
/-- multP, by a name that is not unfolded. -/
noncomputable def multPO : (Nat → Int) → (Nat → Int) := Classical.choose multPO_ex
theorem multPO_eq : multPO = multP := Classical.choose_spec multPO_ex
noncomputable def g101O : List V → Option (Bool × V) := fun | [.ints .u64 20 q] => some (true, (V.ints .u64 320 (multPO q))) | _ => none
theorem g101O_ok (vs : List V) (v : V) (h : g101O vs = some (true, v)) : (∀ μ μ', v.den μ' = v.den μ) ∧ ∀ μ w, PureAt Try.prog 101 (vs.map (V.den μ)).toArray (v.den μ) w := by
  unfold g101O at h
  split at h
  · simp only [Option.some.injEq, Prod.mk.injEq, true_and] at h
    subst h
    rw [multPO_eq]
    exact multP_p _
  · simp at h
noncomputable def o101O : Orc := ext 101 g101O o101
theorem o101O_ok : OrcOK Try.prog o101O := ext_ok o101_ok g101O_ok

/-- The digits are 0 to 63. -/
noncomputable def nibOK (i : Int) : Bool := decide (0 ≤ i ∧ i < 64)
/- curve.nibble -/
noncomputable def nibbleF (k : (Nat → Int)) (i : Int) : Int := (andI .u8 (shrI .u8 (k (0 + (Int.toNat (subI .i64 31 (quoI .i64 i 2)) * 1))) (mulI .i64 4 (subI .i64 1 (remI i 2)))) 15)
theorem nibbleF_t (k : (Nat → Int)) (i : Int) : awp Try.prog o101O noG 300 (body Try.f102) (ends Try.prog Try.f102 fun v _ => okV (V.int .u8 (nibbleF k i)) v) ⟨[(V.ints .u8 32 k), (V.int .i64 i)] ++ List.replicate 14 V.un, []⟩ = (gB (decide (0 ≤ (subI .i64 31 (quoI .i64 i 2)) ∧ (subI .i64 31 (quoI .i64 i 2)) < 32)) (gB (Nat.blt (0 + (Int.toNat (subI .i64 31 (quoI .i64 i 2)) * 1)) 32) (gB (decide (0 ≤ (mulI .i64 4 (subI .i64 1 (remI i 2))))) ((V.int .u8 (andI .u8 (shrI .u8 (k (0 + (Int.toNat (subI .i64 31 (quoI .i64 i 2)) * 1))) (mulI .i64 4 (subI .i64 1 (remI i 2)))) 15)).den z0 = (V.int .u8 (nibbleF k i)).den z0)))) := by kernel_rfl
theorem nibbleF_a (k : (Nat → Int)) (i : Int) (h : nibOK i = true) : awp Try.prog o101O noG 300 (body Try.f102) (ends Try.prog Try.f102 fun v _ => okV (V.int .u8 (nibbleF k i)) v) ⟨[(V.ints .u8 32 k), (V.int .i64 i)] ++ List.replicate 14 V.un, []⟩ := by
  rw [nibbleF_t]
  have h : 0 ≤ i ∧ i < 64 := of_decide_eq_true h
  obtain ⟨n, rfl⟩ := Int.eq_ofNat_of_zero_le h.1
  have hq : quoI .i64 (n : Int) 2 = ((n / 2 : Nat) : Int) := quo_nat n 2 (by omega)
  have hr : remI (n : Int) 2 = ((n % 2 : Nat) : Int) := rem_nat n 2
  have hs : subI .i64 31 ((n / 2 : Nat) : Int) = ((31 - n / 2 : Nat) : Int) := (wrap_i64 _ (by omega)).trans (by omega)
  have ht : subI .i64 1 ((n % 2 : Nat) : Int) = ((1 - n % 2 : Nat) : Int) := (wrap_i64 _ (by omega)).trans (by omega)
  have hm : mulI .i64 4 ((1 - n % 2 : Nat) : Int) = ((4 * (1 - n % 2) : Nat) : Int) := (wrap_i64 _ (by omega)).trans (by omega)
  refine gm ?_ (gm ?_ (gm ?_ ?_))
  · rw [hq, hs]; exact decide_eq_true (by omega)
  · rw [hq, hs, Int.toNat_natCast]; exact bltT.2 (by omega)
  · rw [hr, ht, hm]; exact decide_eq_true (by omega)
  · unfold nibbleF; rfl

noncomputable def g102 : List V → Option (Bool × V) := fun | [.ints .u8 32 k, .int .i64 i] => some (nibOK i, .int .u8 (nibbleF k i)) | _ => none
theorem nibbleF_p (k : Nat → Int) (i : Int) (h : nibOK i = true) : (∀ μ μ', V.den μ' (V.int .u8 (nibbleF k i)) = V.den μ (V.int .u8 (nibbleF k i))) ∧ ∀ μ w, PureAt Try.prog 102 (([(V.ints .u8 32 k), (V.int .i64 i)] : List V).map (V.den μ)).toArray (V.den μ (V.int .u8 (nibbleF k i))) w :=
  pure_ok (F := o101O) (N := 300) (fn := Try.f102) (args := [(V.ints .u8 32 k), (V.int .i64 i)]) (r := (V.int .u8 (nibbleF k i))) (n := 14) hM o101O_ok (noG_ok _) Try.func102 (by kernel_rfl) (by kernel_rfl) (by kernel_rfl) (by kernel_rfl) (nibbleF_a k i h) (by kernel_rfl)
theorem g102_ok (vs : List V) (v : V) (h : g102 vs = some (true, v)) : (∀ μ μ', v.den μ' = v.den μ) ∧ ∀ μ w, PureAt Try.prog 102 (vs.map (V.den μ)).toArray (v.den μ) w := by
  unfold g102 at h
  split at h
  · simp only [Option.some.injEq, Prod.mk.injEq] at h
    obtain ⟨h, rfl⟩ := h
    exact nibbleF_p _ _ h
  · simp at h
noncomputable def o102 : Orc := ext 102 g102 o101O
theorem o102_ok : OrcOK Try.prog o102 := ext_ok o101O_ok g102_ok
theorem and8_15 (a : Int) : andI .u8 a 15 = a % 16 := by
  unfold andI bits2
  have e1 : (BitVec.ofInt (IntKind.bits .u8) a).toNat = (a % 256).toNat := by rw [BitVec.toNat_ofInt]; rfl
  have e2 : (BitVec.ofInt (IntKind.bits .u8) 15).toNat = 2 ^ 4 - 1 := by decide
  rw [BitVec.toNat_and, e1, e2, Nat.and_two_pow_sub_one_eq_mod, wrap_u8]
  omega
theorem nibble_lt (k : Nat → Int) (i : Int) : 0 ≤ nibbleF k i ∧ nibbleF k i < 16 := by unfold nibbleF; rw [and8_15]; omega

theorem mulP_h (e : (Nat → Int)) (q : (Nat → Int)) (N : Nat) (K : V → List V → Prop) : awp Try.prog o102 noG N (body Try.f66) (ends Try.prog Try.f66 K) ⟨[(V.ints .u8 32 e), (V.ints .u64 20 q)] ++ List.replicate 26 V.un, []⟩ = lp (awp Try.prog o102 noG N (loopOf (body Try.f66))) (spineQ Try.prog o102 noG N (body Try.f66) (ends Try.prog Try.f66 K)) N ⟨[(V.ints .u8 32 e), (V.ints .u64 20 q), (V.ptr 0 0), (V.ptr 1 0), (V.ptr 2 0), (V.ptr 3 0), (V.ptr 4 0), V.un, (V.ints .u64 20 q), (V.ints .u64 320 (multPO q)), (V.ints .u64 20 zeroPO), (V.int .i64 0), V.un, V.un, V.un, V.un, V.un, V.un, V.un, V.un, V.un, V.un, V.un, V.un, V.un, V.un, V.un, V.un], [(V.ints .u8 32 e), (V.ints .u64 20 q), (V.ints .u64 20 (fun _ => 0)), (V.ints .u64 320 (multPO q)), (V.ints .u64 20 zeroPO)]⟩ := by kernel_rfl
theorem mulP_s (e : (Nat → Int)) (q : (Nat → Int)) (a : Nat → Int) (i : Int) (t7 t12 t13 t14 t15 t16 t17 t18 t19 t20 t21 t22 t23 t24 t25 t26 : V) (Q : Exit → St → Prop) (n : Nat) : lp (awp Try.prog o102 noG 300 (loopOf (body Try.f66))) Q (n + 1) ⟨[(V.ints .u8 32 e), (V.ints .u64 20 q), (V.ptr 0 0), (V.ptr 1 0), (V.ptr 2 0), (V.ptr 3 0), (V.ptr 4 0), t7, (V.ints .u64 20 q), (V.ints .u64 320 (multPO q)), (V.ints .u64 20 zeroPO), (V.int .i64 i), t12, t13, t14, t15, t16, t17, t18, t19, t20, t21, t22, t23, t24, t25, t26, V.un], [(V.ints .u8 32 e), (V.ints .u64 20 q), (V.ints .u64 20 (fun _ => 0)), (V.ints .u64 320 (multPO q)), (V.ints .u64 20 a)]⟩ = (mB (decide (i < 64)) (gB (nibOK i) (gB (decide (0 ≤ (nibbleF e i) ∧ (nibbleF e i) < 16)) (gB (Nat.ble ((0 + (Int.toNat (nibbleF e i) * 20)) + 20) 320) (lp (awp Try.prog o102 noG 300 (loopOf (body Try.f66))) Q n ⟨[(V.ints .u8 32 e), (V.ints .u64 20 q), (V.ptr 0 0), (V.ptr 1 0), (V.ptr 2 0), (V.ptr 3 0), (V.ptr 4 0), (V.int .i64 i), (V.ints .u64 20 q), (V.ints .u64 320 (multPO q)), (V.ints .u64 20 zeroPO), (V.int .i64 (addI .i64 i 1)), (V.bool (decide (i < 64))), (V.int .i64 i), (V.int .i64 4), (V.bool false), (V.ints .u64 20 (doublePO (doublePO (doublePO a)))), (V.ints .u64 20 (doublePO (doublePO (doublePO (doublePO a))))), (V.int .i64 4), (V.ints .u64 20 (doublePO (doublePO (doublePO (doublePO a))))), (V.ints .u8 32 e), (V.int .i64 i), (V.int .u8 (nibbleF e i)), (V.ptr 3 (0 + (Int.toNat (nibbleF e i) * 20))), (V.ints .u64 20 (sh (0 + (Int.toNat (nibbleF e i) * 20)) (multPO q))), (V.ints .u64 20 (addPO (doublePO (doublePO (doublePO (doublePO a)))) (sh (0 + (Int.toNat (nibbleF e i) * 20)) (multPO q)))), (V.int .i64 (addI .i64 i 1)), V.un], [(V.ints .u8 32 e), (V.ints .u64 20 q), (V.ints .u64 20 (fun _ => 0)), (V.ints .u64 320 (multPO q)), (V.ints .u64 20 (addPO (doublePO (doublePO (doublePO (doublePO a)))) (sh (0 + (Int.toNat (nibbleF e i) * 20)) (multPO q))))]⟩)))) (Q (.exit 0) ⟨[(V.ints .u8 32 e), (V.ints .u64 20 q), (V.ptr 0 0), (V.ptr 1 0), (V.ptr 2 0), (V.ptr 3 0), (V.ptr 4 0), t7, (V.ints .u64 20 q), (V.ints .u64 320 (multPO q)), (V.ints .u64 20 zeroPO), (V.int .i64 i), (V.bool (decide (i < 64))), t13, t14, t15, t16, t17, t18, t19, t20, t21, t22, t23, t24, t25, t26, V.un], [(V.ints .u8 32 e), (V.ints .u64 20 q), (V.ints .u64 20 (fun _ => 0)), (V.ints .u64 320 (multPO q)), (V.ints .u64 20 a)]⟩)) := by kernel_rfl
theorem mulP_x (e : (Nat → Int)) (q : (Nat → Int)) (a : Nat → Int) (i : Int) (t7 t12 t13 t14 t15 t16 t17 t18 t19 t20 t21 t22 t23 t24 t25 t26 : V) (R : V) : spineQ Try.prog o102 noG 300 (body Try.f66) (ends Try.prog Try.f66 fun v _ => okV R v) (.exit 0) ⟨[(V.ints .u8 32 e), (V.ints .u64 20 q), (V.ptr 0 0), (V.ptr 1 0), (V.ptr 2 0), (V.ptr 3 0), (V.ptr 4 0), t7, (V.ints .u64 20 q), (V.ints .u64 320 (multPO q)), (V.ints .u64 20 zeroPO), (V.int .i64 i), t12, t13, t14, t15, t16, t17, t18, t19, t20, t21, t22, t23, t24, t25, t26, V.un], [(V.ints .u8 32 e), (V.ints .u64 20 q), (V.ints .u64 20 (fun _ => 0)), (V.ints .u64 320 (multPO q)), (V.ints .u64 20 a)]⟩ = (okV R (V.ints .u64 20 a)) := by kernel_rfl

/-- The content behind one round more. -/
noncomputable def mulP_st (e : (Nat → Int)) (q : (Nat → Int)) (i : Int) (a : Nat → Int) : Nat → Int := (addPO (doublePO (doublePO (doublePO (doublePO a)))) (sh (0 + (Int.toNat (nibbleF e i) * 20)) (multPO q)))
noncomputable def mulP_it (e : (Nat → Int)) (q : (Nat → Int)) : Nat → (Nat → Int)
  | 0 => zeroPO
  | k + 1 => mulP_st e q (k : Int) (mulP_it e q k)
theorem mulP_l (e : (Nat → Int)) (q : (Nat → Int)) (Q : Exit → St → Prop) (hQ : ∀ (t7 t12 t13 t14 t15 t16 t17 t18 t19 t20 t21 t22 t23 t24 t25 t26 : V), Q (.exit 0) ⟨[(V.ints .u8 32 e), (V.ints .u64 20 q), (V.ptr 0 0), (V.ptr 1 0), (V.ptr 2 0), (V.ptr 3 0), (V.ptr 4 0), t7, (V.ints .u64 20 q), (V.ints .u64 320 (multPO q)), (V.ints .u64 20 zeroPO), (V.int .i64 ((64 : Nat) : Int)), t12, t13, t14, t15, t16, t17, t18, t19, t20, t21, t22, t23, t24, t25, t26, V.un], [(V.ints .u8 32 e), (V.ints .u64 20 q), (V.ints .u64 20 (fun _ => 0)), (V.ints .u64 320 (multPO q)), (V.ints .u64 20 (mulP_it e q 64))]⟩) : ∀ (d k n : Nat), k + d = 64 → d + 1 ≤ n → ∀ (t7 t12 t13 t14 t15 t16 t17 t18 t19 t20 t21 t22 t23 t24 t25 t26 : V), lp (awp Try.prog o102 noG 300 (loopOf (body Try.f66))) Q n ⟨[(V.ints .u8 32 e), (V.ints .u64 20 q), (V.ptr 0 0), (V.ptr 1 0), (V.ptr 2 0), (V.ptr 3 0), (V.ptr 4 0), t7, (V.ints .u64 20 q), (V.ints .u64 320 (multPO q)), (V.ints .u64 20 zeroPO), (V.int .i64 (k : Int)), t12, t13, t14, t15, t16, t17, t18, t19, t20, t21, t22, t23, t24, t25, t26, V.un], [(V.ints .u8 32 e), (V.ints .u64 20 q), (V.ints .u64 20 (fun _ => 0)), (V.ints .u64 320 (multPO q)), (V.ints .u64 20 (mulP_it e q k))]⟩
  | 0, k, n, hk, hn, t7, t12, t13, t14, t15, t16, t17, t18, t19, t20, t21, t22, t23, t24, t25, t26 => by
    obtain ⟨n, rfl⟩ : ∃ m, n = m + 1 := ⟨n - 1, by omega⟩
    obtain rfl : k = 64 := by omega
    rw [mulP_s]
    refine mBt (fun h => absurd (of_decide_eq_true h) (by simp)) (fun _ => ?_)
    exact hQ _ _ _ _ _ _ _ _ _ _ _ _ _ _ _ _
  | d + 1, k, n, hk, hn, t7, t12, t13, t14, t15, t16, t17, t18, t19, t20, t21, t22, t23, t24, t25, t26 => by
    obtain ⟨n, rfl⟩ : ∃ m, n = m + 1 := ⟨n - 1, by omega⟩
    have hi : (0 : Int) ≤ (k : Int) ∧ (k : Int) < 64 := by omega
    have g0 : (nibOK (k : Int)) = true := by first | exact decide_eq_true (nibble_lt _ _) | (refine bleT.2 ?_; have hn1 := nibble_lt e (k : Int); omega) | exact decide_eq_true (by omega)
    have g1 : (decide (0 ≤ (nibbleF e (k : Int)) ∧ (nibbleF e (k : Int)) < 16)) = true := by first | exact decide_eq_true (nibble_lt _ _) | (refine bleT.2 ?_; have hn1 := nibble_lt e (k : Int); omega) | exact decide_eq_true (by omega)
    have g2 : (Nat.ble ((0 + (Int.toNat (nibbleF e (k : Int)) * 20)) + 20) 320) = true := by first | exact decide_eq_true (nibble_lt _ _) | (refine bleT.2 ?_; have hn1 := nibble_lt e (k : Int); omega) | exact decide_eq_true (by omega)
    have hnx : (addI .i64 (k : Int) 1) = ((k + 1 : Nat) : Int) := by exact add1_nat k (by omega)
    rw [mulP_s]
    refine mBt (fun _ => ?_) (fun h => absurd hi.2 (of_decide_eq_false h))
    refine gm g0 ?_
    refine gm g1 ?_
    refine gm g2 ?_
    rw [hnx]
    have h := mulP_l e q Q hQ d (k + 1) n (by omega) (by omega)
    simp only [mulP_it, mulP_st] at h
    exact h _ _ _ _ _ _ _ _ _ _ _ _ _ _ _ _

noncomputable def mulP (e q : Nat → Int) : Nat → Int := mulP_it e q 64
theorem mulP_a (e : (Nat → Int)) (q : (Nat → Int)) : awp Try.prog o102 noG 300 (body Try.f66) (ends Try.prog Try.f66 fun v _ => okV (V.ints .u64 20 (mulP e q)) v) ⟨[(V.ints .u8 32 e), (V.ints .u64 20 q)] ++ List.replicate 26 V.un, []⟩ := by
  rw [mulP_h]
  exact mulP_l e q _ (fun _ _ _ _ _ _ _ _ _ _ _ _ _ _ _ _ => by rw [mulP_x]; exact okV_refl rfl) 64 0 300 (by omega) (by omega) _ _ _ _ _ _ _ _ _ _ _ _ _ _ _ _

noncomputable def g66 : List V → Option (Bool × V) := fun | [.ints .u8 32 e, .ints .u64 20 q] => some (true, (V.ints .u64 20 (mulP e q))) | _ => none
theorem mulP_p (e : (Nat → Int)) (q : (Nat → Int)) : (∀ μ μ', V.den μ' (V.ints .u64 20 (mulP e q)) = V.den μ (V.ints .u64 20 (mulP e q))) ∧ ∀ μ w, PureAt Try.prog 66 (([(V.ints .u8 32 e), (V.ints .u64 20 q)] : List V).map (V.den μ)).toArray (V.den μ (V.ints .u64 20 (mulP e q))) w :=
  pure_ok (F := o102) (N := 300) (fn := Try.f66) (args := [(V.ints .u8 32 e), (V.ints .u64 20 q)]) (r := (V.ints .u64 20 (mulP e q))) (n := 26) hM o102_ok (noG_ok _) Try.func66 (by kernel_rfl) (by kernel_rfl) (by kernel_rfl) (by kernel_rfl) (mulP_a e q) (by kernel_rfl)
theorem g66_ok (vs : List V) (v : V) (h : g66 vs = some (true, v)) : (∀ μ μ', v.den μ' = v.den μ) ∧ ∀ μ w, PureAt Try.prog 66 (vs.map (V.den μ)).toArray (v.den μ) w := by
  unfold g66 at h
  split at h
  · simp only [Option.some.injEq, Prod.mk.injEq, true_and] at h
    subst h
    exact mulP_p _ _
  · simp at h
noncomputable def o66 : Orc := ext 66 g66 o102
theorem o66_ok : OrcOK Try.prog o66 := ext_ok o102_ok g66_ok

theorem mulPO_ex : ∃ f : (Nat → Int) → (Nat → Int) → (Nat → Int), f = mulP := ⟨_, rfl⟩
/-- mulP, by a name that is not unfolded. -/
noncomputable def mulPO : (Nat → Int) → (Nat → Int) → (Nat → Int) := Classical.choose mulPO_ex
theorem mulPO_eq : mulPO = mulP := Classical.choose_spec mulPO_ex
noncomputable def g66O : List V → Option (Bool × V) := fun | [.ints .u8 32 e, .ints .u64 20 q] => some (true, (V.ints .u64 20 (mulPO e q))) | _ => none
theorem g66O_ok (vs : List V) (v : V) (h : g66O vs = some (true, v)) : (∀ μ μ', v.den μ' = v.den μ) ∧ ∀ μ w, PureAt Try.prog 66 (vs.map (V.den μ)).toArray (v.den μ) w := by
  unfold g66O at h
  split at h
  · simp only [Option.some.injEq, Prod.mk.injEq, true_and] at h
    subst h
    rw [mulPO_eq]
    exact mulP_p _ _
  · simp at h
noncomputable def o66O : Orc := ext 66 g66O o66
theorem o66O_ok : OrcOK Try.prog o66O := ext_ok o66_ok g66O_ok

/- curve.MulBase -/
noncomputable def mulBaseP (e : (Nat → Int)) : (Nat → Int) := (mulPO e startPO)
theorem mulBaseP_t (e : (Nat → Int)) : awp Try.prog o66O noG 300 (body Try.f64) (ends Try.prog Try.f64 fun v _ => okV (V.ints .u64 20 (mulBaseP e)) v) ⟨[(V.ints .u8 32 e)] ++ List.replicate 5 V.un, []⟩ = ((V.ints .u64 20 (mulBaseP e)).den z0 = (V.ints .u64 20 (mulBaseP e)).den z0) := by kernel_rfl
theorem mulBaseP_a (e : (Nat → Int)) : awp Try.prog o66O noG 300 (body Try.f64) (ends Try.prog Try.f64 fun v _ => okV (V.ints .u64 20 (mulBaseP e)) v) ⟨[(V.ints .u8 32 e)] ++ List.replicate 5 V.un, []⟩ := by rw [mulBaseP_t]
noncomputable def g64 : List V → Option (Bool × V) := fun | [.ints .u8 32 e] => some (true, (V.ints .u64 20 (mulBaseP e))) | _ => none
theorem mulBaseP_p (e : (Nat → Int)) : (∀ μ μ', V.den μ' (V.ints .u64 20 (mulBaseP e)) = V.den μ (V.ints .u64 20 (mulBaseP e))) ∧ ∀ μ w, PureAt Try.prog 64 (([(V.ints .u8 32 e)] : List V).map (V.den μ)).toArray (V.den μ (V.ints .u64 20 (mulBaseP e))) w :=
  pure_ok (F := o66O) (N := 300) (fn := Try.f64) (args := [(V.ints .u8 32 e)]) (r := (V.ints .u64 20 (mulBaseP e))) (n := 5) hM o66O_ok (noG_ok _) Try.func64 (by kernel_rfl) (by kernel_rfl) (by kernel_rfl) (by kernel_rfl) (mulBaseP_a e) (by kernel_rfl)
theorem g64_ok (vs : List V) (v : V) (h : g64 vs = some (true, v)) : (∀ μ μ', v.den μ' = v.den μ) ∧ ∀ μ w, PureAt Try.prog 64 (vs.map (V.den μ)).toArray (v.den μ) w := by
  unfold g64 at h
  split at h
  · simp only [Option.some.injEq, Prod.mk.injEq, true_and] at h
    subst h
    exact mulBaseP_p _
  · simp at h
noncomputable def o64 : Orc := ext 64 g64 o66O
theorem o64_ok : OrcOK Try.prog o64 := ext_ok o66O_ok g64_ok

theorem mulBasePO_ex : ∃ f : (Nat → Int) → (Nat → Int), f = mulBaseP := ⟨_, rfl⟩
/-- mulBaseP, by a name that is not unfolded. -/
noncomputable def mulBasePO : (Nat → Int) → (Nat → Int) := Classical.choose mulBasePO_ex
theorem mulBasePO_eq : mulBasePO = mulBaseP := Classical.choose_spec mulBasePO_ex
noncomputable def g64O : List V → Option (Bool × V) := fun | [.ints .u8 32 e] => some (true, (V.ints .u64 20 (mulBasePO e))) | _ => none
theorem g64O_ok (vs : List V) (v : V) (h : g64O vs = some (true, v)) : (∀ μ μ', v.den μ' = v.den μ) ∧ ∀ μ w, PureAt Try.prog 64 (vs.map (V.den μ)).toArray (v.den μ) w := by
  unfold g64O at h
  split at h
  · simp only [Option.some.injEq, Prod.mk.injEq, true_and] at h
    subst h
    rw [mulBasePO_eq]
    exact mulBaseP_p _
  · simp at h
noncomputable def o64O : Orc := ext 64 g64O o64
theorem o64O_ok : OrcOK Try.prog o64O := ext_ok o64_ok g64O_ok
end Go.Proofs.Ytbnclikjbnfodaa

/-
  Multiples of a point: the table, the digits, Mul. Conditions: none.
-/
namespace Go.Proofs.Ytbnclikjbnfodaa
set_option maxRecDepth 100000
open Go.Ev Go.Num

/-- n times a point. -/
noncomputable def smu : Nat → Pn → Pn
  | 0, _ => .zero
  | n + 1, A => (smu n A).add A
theorem smu_0 (A : Pn) : smu 0 A = .zero := rfl
theorem smu_succ (n : Nat) (A : Pn) : smu (n + 1) A = (smu n A).add A := rfl
theorem zero_add' (A : Pn) : Pn.zero.add A = A := by rw [add_comm', add_zero']
theorem add4 (S T A B : Pn) : (S.add T).add (A.add B) = (S.add A).add (T.add B) := by
  rw [add_assoc' S T, ← add_assoc' T A B, add_comm' T A, add_assoc' A T B, ← add_assoc' S A]
theorem smu_add (m : Nat) (A : Pn) : ∀ n, smu (m + n) A = (smu m A).add (smu n A)
  | 0 => by rw [smu_0, add_zero', Nat.add_zero]
  | n + 1 => by rw [← Nat.add_assoc, smu_succ, smu_succ, smu_add m A n, add_assoc']
theorem smu_one (A : Pn) : smu 1 A = A := by rw [smu_succ, smu_0, zero_add']
theorem smu_two (n : Nat) (A : Pn) : (smu n A).add (smu n A) = smu (2 * n) A := by rw [← smu_add, Nat.two_mul]
theorem smu_zero : ∀ n, smu n .zero = .zero
  | 0 => smu_0 _
  | n + 1 => by rw [smu_succ, add_zero', smu_zero n]
theorem smu_sum (A B : Pn) : ∀ n, smu n (A.add B) = (smu n A).add (smu n B)
  | 0 => by rw [smu_0, smu_0, smu_0, add_zero']
  | n + 1 => by rw [smu_succ, smu_succ, smu_succ, smu_sum A B n, add4]
theorem smu_mul (m : Nat) (A : Pn) : ∀ n, smu (n * m) A = smu n (smu m A)
  | 0 => by rw [Nat.zero_mul, smu_0, smu_0]
  | n + 1 => by rw [Nat.succ_mul, smu_add, smu_mul m A n, smu_succ]

theorem Fm.congr {q r : Nat → Int} {A : Pn} (h : Fm q A) (e : ∀ j, j < 20 → r j = q j) : Fm r A := by
  obtain ⟨z, hz, x1, y1, z1, t1⟩ := h
  exact ⟨z, hz, x1.congr fun j hj => by rw [sh_at, sh_at]; exact e _ (by omega), y1.congr fun j hj => by rw [sh_at, sh_at]; exact e _ (by omega),
    z1.congr fun j hj => by rw [sh_at, sh_at]; exact e _ (by omega), t1.congr fun j hj => by rw [sh_at, sh_at]; exact e _ (by omega)⟩
/-- The table. -/
theorem mult_it {q : Nat → Int} {A : Pn} (hq : Fm q A) : ∀ k, k ≤ 15 → ∀ j, j ≤ k → Fm (sh (0 + j * 20) (multP_it q k)) (smu j A)
  | 0, _, j, hj => by
    obtain rfl : j = 0 := by omega
    exact zeroP_fm.congr fun j hj => by
      rw [sh_at]
      show spl 0 20 320 zeroPO (fun _ => 0) _ = _
      rw [spl_at _ _ _ _ _ _ (by omega), if_pos (by omega)]
      congr 1; omega
  | k + 1, hk, j, hj => by
    have ih := mult_it hq k (by omega)
    have e1 : addI .i64 (k : Int) 1 = ((k + 1 : Nat) : Int) := add1_nat k (by omega)
    rcases Nat.lt_or_ge k j with h | h
    · obtain rfl : j = k + 1 := by omega
      refine (addP_fm (ih k (by omega)) hq).congr fun j hj => ?_
      rw [sh_at]
      show multP_st q (k : Int) (multP_it q k) _ = _
      unfold multP_st
      rw [e1, Int.toNat_natCast, Int.toNat_natCast, spl_at _ _ _ _ _ _ (by omega), if_pos (by omega)]
      congr 1; omega
    · refine (ih j (by omega)).congr fun i hi => ?_
      rw [sh_at, sh_at]
      show multP_st q (k : Int) (multP_it q k) _ = _
      unfold multP_st
      rw [e1, Int.toNat_natCast, spl_at _ _ _ _ _ _ (by omega), if_neg (by omega)]
theorem mult_fm {q : Nat → Int} {A : Pn} (hq : Fm q A) {j : Nat} (hj : j < 16) : Fm (sh (0 + j * 20) (multPO q)) (smu j A) := by
  rw [multPO_eq]
  exact mult_it hq 15 (by omega) j (by omega)

/-- A digit to the base 16. -/
theorem nibble_v {e : Nat → Int} (he : B32 e) {k : Nat} (hk : k < 64) : nibbleF e (k : Int) = vb e / 16 ^ (63 - k) % 16 := by
  have b0 := vb_bound he
  have dig : e (31 - k / 2) = vb e / 256 ^ (31 - k / 2) % 256 := by
    refine dv_inj (B := 256) (n := 32) (by omega) he (b := fun j => vb e / 256 ^ j % 256) (fun j hj => by omega) ?_ _ (by omega)
    rw [dv_digits (by omega)]
    exact (Int.emod_eq_of_lt b0.1 (by rw [show (256 : Int) ^ 32 = 2 ^ 256 by decide]; exact b0.2)).symm
  have hq : quoI .i64 (k : Int) 2 = ((k / 2 : Nat) : Int) := quo_nat k 2 (by omega)
  have hr : remI (k : Int) 2 = ((k % 2 : Nat) : Int) := rem_nat k 2
  have hs : subI .i64 31 ((k / 2 : Nat) : Int) = ((31 - k / 2 : Nat) : Int) := (wrap_i64 _ (by omega)).trans (by omega)
  have ht : subI .i64 1 ((k % 2 : Nat) : Int) = ((1 - k % 2 : Nat) : Int) := (wrap_i64 _ (by omega)).trans (by omega)
  have hm : mulI .i64 4 ((1 - k % 2 : Nat) : Int) = ((4 * (1 - k % 2) : Nat) : Int) := (wrap_i64 _ (by omega)).trans (by omega)
  unfold nibbleF
  rw [and8_15, hq, hr, hs, ht, hm, Int.toNat_natCast, Nat.mul_one, Nat.zero_add, dig, shrU8 _ _ (by omega)]
  have h16 : (256 : Int) ^ (31 - k / 2) = 16 ^ (2 * (31 - k / 2)) := by rw [Int.pow_mul]; rfl
  rw [h16]
  have h0 : 0 ≤ vb e := b0.1
  rcases Nat.mod_two_eq_zero_or_one k with h | h
  · have e1 : (63 - k) = 2 * (31 - k / 2) + 1 := by omega
    rw [h, e1, show (16 : Int) ^ (2 * (31 - k / 2) + 1) = 16 ^ (2 * (31 - k / 2)) * 16 from Int.pow_succ .., ← Int.ediv_ediv_of_nonneg (Int.le_of_lt (pow_pos' (by omega) _))]
    generalize vb e / 16 ^ (2 * (31 - k / 2)) = M
    show M % 256 / 2 ^ 4 % 16 = _
    omega
  · have e1 : (63 - k) = 2 * (31 - k / 2) := by omega
    rw [h, e1]
    generalize vb e / 16 ^ (2 * (31 - k / 2)) = M
    show M % 256 / 2 ^ 0 % 16 = _
    omega
theorem mul_it {e q : Nat → Int} {A : Pn} (he : B32 e) (hq : Fm q A) : ∀ k, k ≤ 64 → Fm (mulP_it e q k) (smu ((vb e).toNat / 16 ^ (64 - k)) A)
  | 0, _ => by
    have b0 := vb_bound he
    rw [show (vb e).toNat / 16 ^ (64 - 0) = 0 from Nat.div_eq_of_lt (by
      have : (16 : Nat) ^ 64 = 115792089237316195423570985008687907853269984665640564039457584007913129639936 := by decide
      have h2 : (2 : Int) ^ 256 = 115792089237316195423570985008687907853269984665640564039457584007913129639936 := by decide
      show _ < 16 ^ 64
      omega)]
    exact zeroP_fm
  | k + 1, hk => by
    have ih := mul_it he hq k (by omega)
    have b0 := vb_bound he
    have hn := nibble_v he (k := k) (by omega)
    have d1 := doubleP_fm ih
    rw [smu_two] at d1
    have d2 := doubleP_fm d1
    rw [smu_two] at d2
    have d3 := doubleP_fm d2
    rw [smu_two] at d3
    have d4 := doubleP_fm d3
    rw [smu_two] at d4
    have hlt := nibble_lt e (k : Int)
    obtain ⟨d, hd⟩ := Int.eq_ofNat_of_zero_le hlt.1
    rw [hd] at hn hlt
    have t := mult_fm hq (j := d) (by omega)
    have s := addP_fm d4 t
    rw [← smu_add] at s
    show Fm (mulP_st e q (k : Int) (mulP_it e q k)) _
    unfold mulP_st
    rw [hd, Int.toNat_natCast]
    have hN : (vb e).toNat / 16 ^ (64 - (k + 1)) = 2 * (2 * (2 * (2 * ((vb e).toNat / 16 ^ (64 - k))))) + d := by
      obtain ⟨n, hn'⟩ := Int.eq_ofNat_of_zero_le b0.1
      rw [hn'] at hn ⊢
      rw [Int.toNat_natCast]
      have e1 : (n : Int) / 16 ^ (63 - k) = ((n / 16 ^ (63 - k) : Nat) : Int) := by push_cast; rfl
      rw [e1] at hn
      have e2 : n / 16 ^ (64 - k) = n / 16 ^ (63 - k) / 16 := by
        rw [Nat.div_div_eq_div_mul, ← Nat.pow_succ]
        exact congrArg (fun m => n / 16 ^ m) (by omega)
      rw [e2, show 64 - (k + 1) = 63 - k by omega]
      generalize n / 16 ^ (63 - k) = m at *
      omega
    rw [hN]
    exact s
theorem mulP_fm {e q : Nat → Int} {A : Pn} (he : B32 e) (hq : Fm q A) : Fm (mulPO e q) (smu (vb e).toNat A) := by
  rw [mulPO_eq]
  have h := mul_it he hq 64 (by omega)
  rw [Nat.sub_self, Nat.pow_zero, Nat.div_one] at h
  exact h
theorem mulBase_fm {e : Nat → Int} (he : B32 e) : Fm (mulBasePO e) (smu (vb e).toNat Bp) := by
  rw [mulBasePO_eq]
  exact mulP_fm he startP_fm
theorem small_iff {q : Nat → Int} {A : Pn} (hq : Fm q A) : smallPO q = true ↔ smu 8 A = .zero := by
  rw [smallPO_eq]
  unfold smallP
  have d1 := doubleP_fm hq
  have d2 := doubleP_fm d1
  have d3 := doubleP_fm d2
  rw [equalP_iff d3 zeroP_fm]
  have e : ((A.add A).add (A.add A)).add ((A.add A).add (A.add A)) = smu 8 A := by
    have : A.add A = smu 2 A := by rw [show smu 2 A = (smu 1 A).add A from rfl, smu_one]
    rw [this, smu_two, smu_two]
  rw [e]
end Go.Proofs.Ytbnclikjbnfodaa

/-
  The document's points are the program's. Conditions: none.
-/
namespace Go.Proofs.Ytbnclikjbnfodaa
set_option maxRecDepth 100000
open Go.Ev Go.Num

/-- The document's digits that mean k. -/
def Jk (a : Nat → Int) (k : K) : Prop := D10 a ∧ v10 a = (k.val : Int)
theorem Ir.k {a : Nat → Int} {X : Int} (h : Ir a X) : Jk a (kk X) := ⟨h.2, by rw [h.1, kk_val]⟩
theorem Jk.r {a : Nat → Int} {k : K} (h : Jk a k) : Ir a (k.val : Int) := ⟨by rw [h.2]; exact (Int.emod_eq_of_lt (by omega) (by have := k.isLt; unfold p; omega)).symm, h.1⟩
theorem Jk.to {x : Nat → Int} {a b : K} (h : Jk x a) (e : a = b) : Jk x b := e ▸ h
theorem tenn {P : Nat → Prop} (h0 : P 0) (h1 : P 1) (h2 : P 2) (h3 : P 3) (h4 : P 4) (h5 : P 5) (h6 : P 6) (h7 : P 7) (h8 : P 8) (h9 : P 9) : ∀ j, j < 10 → P j
  | 0, _ => h0 | 1, _ => h1 | 2, _ => h2 | 3, _ => h3 | 4, _ => h4 | 5, _ => h5 | 6, _ => h6 | 7, _ => h7 | 8, _ => h8 | 9, _ => h9
  | n + 10, h => absurd h (by omega)
theorem D10_congr {a b : Nat → Int} (h : D10 a) (e : ∀ j, j < 10 → b j = a j) : D10 b := by
  have hv : v10 b = v10 a := dv_congr e
  refine ⟨fun j hj => ?_, ?_⟩
  · rw [e j hj]; exact h.dig j hj
  · rw [hv]; exact h.lt
theorem Jk.congr {x y : Nat → Int} {k : K} (h : Jk x k) (e : ∀ j, j < 10 → y j = x j) : Jk y k :=
  ⟨D10_congr h.1 e, by rw [show v10 y = v10 x from dv_congr e]; exact h.2⟩
theorem Jk.as {x y : Nat → Int} {a b : K} (h : Jk x a) (e : ∀ j, j < 10 → y j = x j) (k : a = b) : Jk y b := (h.congr e).to k
theorem mulJ {a b : Nat → Int} {x y : K} (ha : Jk a x) (hb : Jk b y) : Jk (rMulO a b) (x * y) := by
  rw [rMulO_eq]
  exact (mulR ha.r hb.r).k.to (by rw [kk_mul, kk_of, kk_of])
theorem addJ {a b : Nat → Int} {x y : K} (ha : Jk a x) (hb : Jk b y) : Jk (rAddO a b) (x + y) := by
  rw [rAddO_eq]
  obtain ⟨h1, h2⟩ := add_r ha.1 hb.1
  exact ⟨h2, by rw [h1, ha.2, hb.2, ← kk_val, kk_add, kk_of, kk_of]⟩
theorem subJ {a b : Nat → Int} {x y : K} (ha : Jk a x) (hb : Jk b y) : Jk (rSubO a b) (x - y) := by
  rw [rSubO_eq]
  obtain ⟨h1, h2⟩ := sub_r ha.1 hb.1
  exact ⟨h2, by rw [h1, ha.2, hb.2, ← kk_val, kk_sub, kk_of, kk_of]⟩
theorem negJ {a : Nat → Int} {x : K} (ha : Jk a x) : Jk (rNegO a) (-x) := by
  rw [rNegO_eq]
  obtain ⟨h1, h2⟩ := neg_r ha.1
  exact ⟨h2, by rw [h1, ha.2, ← kk_val, kk_neg, kk_of]⟩
theorem smallJ (n : Int) (h0 : 0 ≤ n) (h1 : n < 18446744073709551616) : Jk (rSmallO n) (kk n) := by
  rw [rSmallO_eq]; exact (smallR n h0 h1).k
theorem invJ {a : Nat → Int} {x : K} (ha : Jk a x) : Jk (rInvertO a) (ki x) := by
  rw [rInvertO_eq]
  exact (invR ha.r).k.to (by rw [kk_inv, kk_of])
theorem eqJ {a b : Nat → Int} {x y : K} (ha : Jk a x) (hb : Jk b y) : eqN 10 a b = decide (x = y) := by
  rw [eq10 ha.1 hb.1, ha.2, hb.2]; exact decide_eq_decide.2 k_val
theorem isZeroJ {a : Nat → Int} {x : K} (ha : Jk a x) : rIsZeroO a = decide (x = 0) := by
  rw [rIsZeroO_eq, rIsZero_v ha.1, ha.2]
  refine decide_eq_decide.2 ⟨fun h => Fin.ext (by show x.val = 0; omega), fun h => by rw [h]; rfl⟩
theorem isOddJ {a : Nat → Int} {x : K} (ha : Jk a x) : rIsOddO a = decide (x.val % 2 = 1) := by
  rw [rIsOddO_eq, rIsOdd_v, ha.2, Bool.eq_iff_iff]
  simp only [beq_iff_eq, decide_eq_true_eq]
  omega
theorem ofJ {x : Nat → Int} {a : K} (hx : Ik x a) : Jk (rOfO x) a := by
  rw [rOfO_eq]
  exact (ofI hx.1).k.to hx.2
theorem bytesJ {a : Nat → Int} {x : K} (ha : Jk a x) : B32 (rBytesO a) ∧ vb (rBytesO a) = (x.val : Int) := by
  have h : ∀ j, j < 32 → rBytesO a j = (x.val : Int) / 256 ^ j % 256 := fun j hj => by rw [rBytesO_eq, rBytes_v ha.1 j hj, ha.2]
  refine ⟨fun j hj => by rw [h j hj]; omega, ?_⟩
  show dv 256 32 _ = _
  rw [dv_congr h, dv_digits (by omega)]
  have := x.isLt
  exact Int.emod_eq_of_lt (by omega) (by rw [show (256 : Int) ^ 32 = 115792089237316195423570985008687907853269984665640564039457584007913129639936 by decide]; omega)
theorem fromBytesJ {b : Nat → Int} (h : B32 b) : Jk (rFromBytesO b) (kk (vb b % 57896044618658097711785492504343953926634992332820282019728792003956564819968)) := by
  obtain ⟨f1, f2⟩ := rFromBytes_v h
  rw [rFromBytesO_eq]
  exact ⟨f2, by rw [f1, kk_val]⟩
theorem canonicalJ {b : Nat → Int} (h : B32 b) : rCanonicalO b = decide (vb b < p) := by
  obtain ⟨f1, f2⟩ := rFromBytes_v h
  rw [rCanonicalO_eq]
  unfold rCanonical
  generalize hN : vb b = N at f1
  rw [← hN]
  exact canon_iff h hN rfl (fun j hj => by rw [rBytes_v f2 j hj, f1])
theorem DJ : Jk rDO D := by
  rw [rDO_eq]
  unfold rD
  refine (fromBytesJ (by unfold B32; decide)).to ?_
  unfold D
  rw [kk_iff]
  decide
theorem sqrtJ {u v : Nat → Int} {a b : K} (hu : Jk u a) (hv : Jk v b) (hb : b ≠ 0) :
    (∃ k, (rSqrtO u v).2 = true ∧ Jk (rSqrtO u v).1 k ∧ b * (k * k) = a ∧ (k.val : Int) % 2 = 0) ∨ ((rSqrtO u v).2 = false ∧ ∀ k, b * (k * k) ≠ a) := by
  rw [rSqrtO_eq]
  obtain ⟨s1, s2⟩ := sqrt_r hu.r hv.r
  have hV : (b.val : Int) % p ≠ 0 := fun h => hb (by rw [← kk_of b]; exact kk_z.2 h)
  rw [s2]
  cases h : (sqZ (a.val : Int) (b.val : Int)).2 with
  | true =>
    obtain ⟨r1, r2⟩ := sq_ok hV h
    refine .inl ⟨_, rfl, s1.k, ?_, ?_⟩
    · have := kk_iff.2 (show _ % p = _ % p from r1)
      rwa [kk_mul, kk_mul, kk_of, kk_of] at this
    · rw [kk_val]; exact r2
  | false =>
    refine .inr ⟨rfl, fun k e => ?_⟩
    have e' : kk ((b.val : Int) * ((k.val : Int) * (k.val : Int))) = kk (a.val : Int) := by rw [kk_mul, kk_mul, kk_of, kk_of, kk_of, e]
    have := sq_square hV (show Eqp _ _ from (kk_iff.1 e').symm)
    rw [h] at this
    cases this

/-- a is a form of the point A, in the document's coordinates. -/
def Rm (a : Nat → Int) (A : Pn) : Prop := ∃ z : K, z ≠ 0 ∧ Jk (sh 0 a) (A.x * z) ∧ Jk (sh 10 a) (A.y * z) ∧ Jk (sh 20 a) z
theorem ofP_rm {q : Nat → Int} {A : Pn} (hq : Fm q A) : Rm (rOfPO q) A := by
  obtain ⟨z, hz, x1, y1, z1, t1⟩ := hq
  rw [rOfPO_eq]
  exact ⟨z, hz, (ofJ x1).congr (tenn rfl rfl rfl rfl rfl rfl rfl rfl rfl rfl), (ofJ y1).congr (tenn rfl rfl rfl rfl rfl rfl rfl rfl rfl rfl), (ofJ z1).congr (tenn rfl rfl rfl rfl rfl rfl rfl rfl rfl rfl)⟩
theorem affine_rm {xa ya : Nat → Int} {x y : K} (hx : Jk xa x) (hy : Jk ya y) (on : OnK x y) : Rm (rAffineO xa ya) ⟨x, y, on⟩ := by
  rw [rAffineO_eq]
  have e1 : ∀ k : K, k = k * 1 := fun k => (Fin.mul_one k).symm
  have one := smallJ 1 (by omega) (by omega)
  rw [kk_1] at one
  exact ⟨1, by decide, hx.as (tenn rfl rfl rfl rfl rfl rfl rfl rfl rfl rfl) (e1 _), hy.as (tenn rfl rfl rfl rfl rfl rfl rfl rfl rfl rfl) (e1 _), one.congr (tenn rfl rfl rfl rfl rfl rfl rfl rfl rfl rfl)⟩
theorem rEqual_iff {q r : Nat → Int} {A B : Pn} (hq : Rm q A) (hr : Rm r B) : rEqualPO q r = true ↔ A = B := by
  obtain ⟨z, hz, x1, y1, z1⟩ := hq
  obtain ⟨w, hw, x2, y2, z2⟩ := hr
  rw [rEqualPO_eq]
  unfold rEqualP
  rw [eqJ (mulJ x1 z2) (mulJ x2 z1), eqJ (mulJ y1 z2) (mulJ y2 z1)]
  have c : ∀ a b : K, a * z * w = b * w * z ↔ a = b := fun a b => by
    constructor
    · intro h
      refine k_cancel (k_mul_ne hz hw) ?_
      clear x1 y1 z1 x2 y2 z2
      grind -lia
    · intro h
      subst h
      clear x1 y1 z1 x2 y2 z2
      grind -lia
  by_cases hx : A.x = B.x
  · rw [decide_eq_true ((c _ _).2 hx), cond_true, decide_eq_true_eq, c]
    exact ⟨fun h => Pn.ext' hx h, fun h => by rw [h]⟩
  · rw [decide_eq_false (fun h => hx ((c _ _).1 h)), cond_false]
    exact ⟨fun h => absurd h (by simp), fun h => absurd (by rw [h]) hx⟩
theorem rOnP_of {q : Nat → Int} {A : Pn} (hq : Fm q A) : rOnPO q = true := by
  obtain ⟨z, hz, x1, y1, z1, t1⟩ := hq
  have on := A.on
  unfold OnK at on
  have x1 := ofJ x1; have y1 := ofJ y1; have z1 := ofJ z1; have t1 := ofJ t1
  rw [rOnPO_eq]
  unfold rOnP
  rw [isZeroJ z1, decide_eq_false hz, eqJ (mulJ x1 y1) (mulJ z1 t1), eqJ (subJ (mulJ y1 y1) (mulJ x1 x1)) (addJ (mulJ z1 z1) (mulJ DJ (mulJ t1 t1)))]
  have e1 : A.x * z * (A.y * z) = z * (A.x * A.y * z) := by clear on x1 y1 z1 t1; grind -lia
  have e2 : A.y * z * (A.y * z) - A.x * z * (A.x * z) = z * z + D * (A.x * A.y * z * (A.x * A.y * z)) := by
    generalize D = d at *
    clear x1 y1 z1 t1 e1; grind -lia
  rw [decide_eq_true e1, decide_eq_true e2]; rfl
theorem isP_iff {q a : Nat → Int} {A B : Pn} (hq : Fm q A) (ha : Rm a B) : isPO q a = true ↔ A = B := by
  rw [isPO_eq]
  unfold isP
  rw [rOnP_of hq, cond_true]
  exact rEqual_iff (ofP_rm hq) ha

/-- The document's point of a y. -/
theorem acrossJ {ya : Nat → Int} {y : K} (hy : Jk ya y) :
    (∃ k, (rAcrossO ya).2 = true ∧ Jk (rAcrossO ya).1 k ∧ (D * (y * y) + 1) * (k * k) = y * y - 1 ∧ (k.val : Int) % 2 = 0) ∨ ((rAcrossO ya).2 = false ∧ ∀ k, (D * (y * y) + 1) * (k * k) ≠ y * y - 1) := by
  rw [rAcrossO_eq]
  have one := smallJ 1 (by omega) (by omega)
  rw [kk_1] at one
  exact sqrtJ (subJ (mulJ hy hy) one) (addJ (mulJ DJ (mulJ hy hy)) one) (dy_ne y)
/-- What the document's Decode reads. -/
theorem decJ {b : Nat → Int} (hb : B32 b) : (∃ A, (rDecodePO b).2 = true ∧ Rm (rDecodePO b).1 A ∧ vb b = en A) ∨
    ((rDecodePO b).2 = false ∧ ∀ A, vb b ≠ en A) := by
  have top := vb_top hb
  have b31 := hb 31 (by omega)
  have ha : remI (b 31) 128 = b 31 % 128 := by
    obtain ⟨n, hn⟩ := Int.eq_ofNat_of_zero_le b31.1
    rw [hn]
    exact (rem_nat n 128).trans (by omega)
  rw [rDecodePO_eq]
  unfold rDecodeP
  rw [ha]
  obtain ⟨cB, cv⟩ := vb_up hb (c := b 31 % 128) (by omega)
  generalize hc : up 31 (b 31 % 128) b = c at *
  have cN : vb c = vb b % 57896044618658097711785492504343953926634992332820282019728792003956564819968 := by omega
  rw [canonicalJ cB]
  by_cases hcan : vb c < p
  rotate_left
  · rw [decide_eq_false hcan, Bool.not_false, cond_true]
    refine .inr ⟨rfl, fun A hA => hcan ?_⟩
    have := (en_y hA).1
    have := A.y.isLt
    unfold p
    omega
  rw [decide_eq_true hcan, Bool.not_true, cond_false]
  have c0 := (vb_bound cB).1
  have hy : Jk (rFromBytesO c) (kk (vb c)) := (fromBytesJ cB).to (by
    rw [Int.emod_eq_of_lt c0 (by unfold p at hcan; omega)])
  have yv : ((kk (vb c)).val : Int) = vb c := by rw [kk_val]; exact Int.emod_eq_of_lt c0 hcan
  generalize hyk : kk (vb c) = y at *
  generalize rFromBytesO c = ya at *
  have uni : ∀ A : Pn, vb b = en A → A.y = y ∧ (D * (y * y) + 1) * (A.x * A.x) = y * y - 1 ∧ (A.x.val : Int) % 2 = b 31 / 128 := by
    intro A hA
    obtain ⟨a1, a2⟩ := en_y hA
    have e : A.y = y := k_val.1 (by omega)
    refine ⟨e, ?_, by omega⟩
    rw [← e]
    exact on_iff.1 A.on
  rcases acrossJ hy with ⟨k, h1, h2, h3, h4⟩ | ⟨h1, h2⟩
  rotate_left
  · rw [h1, Bool.not_false, cond_true]
    exact .inr ⟨rfl, fun A hA => h2 _ (uni A hA).2.1⟩
  rw [h1, Bool.not_true, cond_false]
  generalize (rAcrossO ya).1 = r at *
  have on : OnK k y := on_iff.2 h3
  by_cases odd : b 31 ≥ 128
  · rw [decide_eq_true odd, cond_true, cond_true, isZeroJ h2]
    by_cases k0 : k = 0
    · rw [decide_eq_true k0, cond_true]
      refine .inr ⟨rfl, fun A hA => ?_⟩
      obtain ⟨_, g1, g2⟩ := uni A hA
      have : A.x * A.x = 0 * 0 := by
        refine k_cancel' (dy_ne y) ?_
        rw [g1, ← h3, k0]
      have hx : A.x = 0 := by
        rcases k_mul_zero (this.trans (Fin.mul_zero 0)) with h | h <;> exact h
      rw [hx] at g2
      have z : (((0 : K).val : Nat) : Int) % 2 = 0 := by decide
      omega
    · rw [decide_eq_false k0, cond_false]
      have onn : OnK (-k) y := by
        unfold OnK at *
        generalize D = d at *
        clear uni
        grind -lia
      refine .inl ⟨⟨-k, y, onn⟩, rfl, affine_rm (negJ h2) hy onn, ?_⟩
      have o := odd_neg k0
      show _ = (y.val : Int) + _ * (((-k : K).val : Int) % 2)
      omega
  · rw [decide_eq_false odd, cond_false, cond_false]
    refine .inl ⟨⟨k, y, on⟩, rfl, affine_rm h2 hy on, ?_⟩
    show _ = (y.val : Int) + _ * ((k.val : Int) % 2)
    omega
end Go.Proofs.Ytbnclikjbnfodaa

namespace Go.Proofs.Ytbnclikjbnfodaa
open Go.Ev
theorem combineP_h (e : (Nat → Int)) (q : (Nat → Int)) (f : (Nat → Int)) (N : Nat) (K : V → List V → Prop) : awp Try.prog o64O noG N (body Try.f75) (ends Try.prog Try.f75 K) ⟨[(V.ints .u8 32 e), (V.ints .u64 20 q), (V.ints .u8 32 f)] ++ List.replicate 38 V.un, []⟩ = (lp (awp Try.prog o64O noG N (loopOf (body Try.f75))) (spineQ Try.prog o64O noG N (body Try.f75) (ends Try.prog Try.f75 K)) N ⟨[(V.ints .u8 32 e), (V.ints .u64 20 q), (V.ints .u8 32 f), (V.ptr 0 0), (V.ptr 1 0), (V.ptr 2 0), (V.ptr 3 0), (V.ptr 4 0), (V.ptr 5 0), (V.ptr 6 0), (V.ptr 7 0), V.un, (V.ints .u64 20 startPO), (V.ints .u64 20 q), (V.ints .u64 320 (multPO q)), (V.ints .u64 20 startPO), (V.ints .u64 320 (multPO startPO)), (V.ints .u64 20 zeroPO), (V.int .i64 0), V.un, V.un, V.un, V.un, V.un, V.un, V.un, V.un, V.un, V.un, V.un, V.un, V.un, V.un, V.un, V.un, V.un, V.un, V.un, V.un, V.un, V.un], [(V.ints .u8 32 e), (V.ints .u64 20 q), (V.ints .u8 32 f), (V.ints .u64 20 (fun _ => 0)), (V.ints .u64 20 startPO), (V.ints .u64 320 (multPO q)), (V.ints .u64 320 (multPO startPO)), (V.ints .u64 20 zeroPO)]⟩ ∧ lp (awp Try.prog o64O noG N (loopOf (body Try.f75))) (spineQ Try.prog o64O noG N (body Try.f75) (ends Try.prog Try.f75 K)) N ⟨[(V.ints .u8 32 e), (V.ints .u64 20 q), (V.ints .u8 32 f), (V.ptr 0 0), (V.ptr 1 0), (V.ptr 2 0), (V.ptr 3 0), (V.ptr 4 0), (V.ptr 6 0), (V.ptr 5 0), (V.ptr 7 0), V.un, (V.ints .u64 20 startPO), (V.ints .u64 20 q), (V.ints .u64 320 (multPO q)), (V.ints .u64 20 startPO), (V.ints .u64 320 (multPO startPO)), (V.ints .u64 20 zeroPO), (V.int .i64 0), V.un, V.un, V.un, V.un, V.un, V.un, V.un, V.un, V.un, V.un, V.un, V.un, V.un, V.un, V.un, V.un, V.un, V.un, V.un, V.un, V.un, V.un], [(V.ints .u8 32 e), (V.ints .u64 20 q), (V.ints .u8 32 f), (V.ints .u64 20 (fun _ => 0)), (V.ints .u64 20 startPO), (V.ints .u64 320 (multPO startPO)), (V.ints .u64 320 (multPO q)), (V.ints .u64 20 zeroPO)]⟩) := by kernel_rfl

theorem combineA_s (e : (Nat → Int)) (q : (Nat → Int)) (f : (Nat → Int)) (a : Nat → Int) (i : Int) (t11 t19 t20 t21 t22 t23 t24 t25 t26 t27 t28 t29 t30 t31 t32 t33 t34 t35 t36 t37 t38 t39 : V) (Q : Exit → St → Prop) (n : Nat) : lp (awp Try.prog o64O noG 300 (loopOf (body Try.f75))) Q (n + 1) ⟨[(V.ints .u8 32 e), (V.ints .u64 20 q), (V.ints .u8 32 f), (V.ptr 0 0), (V.ptr 1 0), (V.ptr 2 0), (V.ptr 3 0), (V.ptr 4 0), (V.ptr 5 0), (V.ptr 6 0), (V.ptr 7 0), t11, (V.ints .u64 20 startPO), (V.ints .u64 20 q), (V.ints .u64 320 (multPO q)), (V.ints .u64 20 startPO), (V.ints .u64 320 (multPO startPO)), (V.ints .u64 20 zeroPO), (V.int .i64 i), t19, t20, t21, t22, t23, t24, t25, t26, t27, t28, t29, t30, t31, t32, t33, t34, t35, t36, t37, t38, t39, V.un], [(V.ints .u8 32 e), (V.ints .u64 20 q), (V.ints .u8 32 f), (V.ints .u64 20 (fun _ => 0)), (V.ints .u64 20 startPO), (V.ints .u64 320 (multPO q)), (V.ints .u64 320 (multPO startPO)), (V.ints .u64 20 a)]⟩ = (mB (decide (i < 64)) (gB (nibOK i) (gB (decide (0 ≤ (nibbleF e i) ∧ (nibbleF e i) < 16)) (gB (Nat.ble ((0 + (Int.toNat (nibbleF e i) * 20)) + 20) 320) (gB (nibOK i) (gB (decide (0 ≤ (nibbleF f i) ∧ (nibbleF f i) < 16)) (gB (Nat.ble ((0 + (Int.toNat (nibbleF f i) * 20)) + 20) 320) (lp (awp Try.prog o64O noG 300 (loopOf (body Try.f75))) Q n ⟨[(V.ints .u8 32 e), (V.ints .u64 20 q), (V.ints .u8 32 f), (V.ptr 0 0), (V.ptr 1 0), (V.ptr 2 0), (V.ptr 3 0), (V.ptr 4 0), (V.ptr 5 0), (V.ptr 6 0), (V.ptr 7 0), (V.int .i64 i), (V.ints .u64 20 startPO), (V.ints .u64 20 q), (V.ints .u64 320 (multPO q)), (V.ints .u64 20 startPO), (V.ints .u64 320 (multPO startPO)), (V.ints .u64 20 zeroPO), (V.int .i64 (addI .i64 i 1)), (V.bool (decide (i < 64))), (V.int .i64 i), (V.int .i64 4), (V.bool false), (V.ints .u64 20 (doublePO (doublePO (doublePO a)))), (V.ints .u64 20 (doublePO (doublePO (doublePO (doublePO a))))), (V.int .i64 4), (V.ints .u64 20 (doublePO (doublePO (doublePO (doublePO a))))), (V.ints .u8 32 e), (V.int .i64 i), (V.int .u8 (nibbleF e i)), (V.ptr 5 (0 + (Int.toNat (nibbleF e i) * 20))), (V.ints .u64 20 (sh (0 + (Int.toNat (nibbleF e i) * 20)) (multPO q))), (V.ints .u64 20 (addPO (doublePO (doublePO (doublePO (doublePO a)))) (sh (0 + (Int.toNat (nibbleF e i) * 20)) (multPO q)))), (V.ints .u8 32 f), (V.int .i64 i), (V.int .u8 (nibbleF f i)), (V.ptr 6 (0 + (Int.toNat (nibbleF f i) * 20))), (V.ints .u64 20 (sh (0 + (Int.toNat (nibbleF f i) * 20)) (multPO startPO))), (V.ints .u64 20 (addPO (addPO (doublePO (doublePO (doublePO (doublePO a)))) (sh (0 + (Int.toNat (nibbleF e i) * 20)) (multPO q))) (sh (0 + (Int.toNat (nibbleF f i) * 20)) (multPO startPO)))), (V.int .i64 (addI .i64 i 1)), V.un], [(V.ints .u8 32 e), (V.ints .u64 20 q), (V.ints .u8 32 f), (V.ints .u64 20 (fun _ => 0)), (V.ints .u64 20 startPO), (V.ints .u64 320 (multPO q)), (V.ints .u64 320 (multPO startPO)), (V.ints .u64 20 (addPO (addPO (doublePO (doublePO (doublePO (doublePO a)))) (sh (0 + (Int.toNat (nibbleF e i) * 20)) (multPO q))) (sh (0 + (Int.toNat (nibbleF f i) * 20)) (multPO startPO))))]⟩))))))) (Q (.exit 0) ⟨[(V.ints .u8 32 e), (V.ints .u64 20 q), (V.ints .u8 32 f), (V.ptr 0 0), (V.ptr 1 0), (V.ptr 2 0), (V.ptr 3 0), (V.ptr 4 0), (V.ptr 5 0), (V.ptr 6 0), (V.ptr 7 0), t11, (V.ints .u64 20 startPO), (V.ints .u64 20 q), (V.ints .u64 320 (multPO q)), (V.ints .u64 20 startPO), (V.ints .u64 320 (multPO startPO)), (V.ints .u64 20 zeroPO), (V.int .i64 i), (V.bool (decide (i < 64))), t20, t21, t22, t23, t24, t25, t26, t27, t28, t29, t30, t31, t32, t33, t34, t35, t36, t37, t38, t39, V.un], [(V.ints .u8 32 e), (V.ints .u64 20 q), (V.ints .u8 32 f), (V.ints .u64 20 (fun _ => 0)), (V.ints .u64 20 startPO), (V.ints .u64 320 (multPO q)), (V.ints .u64 320 (multPO startPO)), (V.ints .u64 20 a)]⟩)) := by kernel_rfl
theorem combineA_x (e : (Nat → Int)) (q : (Nat → Int)) (f : (Nat → Int)) (a : Nat → Int) (i : Int) (t11 t19 t20 t21 t22 t23 t24 t25 t26 t27 t28 t29 t30 t31 t32 t33 t34 t35 t36 t37 t38 t39 : V) (R : V) : spineQ Try.prog o64O noG 300 (body Try.f75) (ends Try.prog Try.f75 fun v _ => okV R v) (.exit 0) ⟨[(V.ints .u8 32 e), (V.ints .u64 20 q), (V.ints .u8 32 f), (V.ptr 0 0), (V.ptr 1 0), (V.ptr 2 0), (V.ptr 3 0), (V.ptr 4 0), (V.ptr 5 0), (V.ptr 6 0), (V.ptr 7 0), t11, (V.ints .u64 20 startPO), (V.ints .u64 20 q), (V.ints .u64 320 (multPO q)), (V.ints .u64 20 startPO), (V.ints .u64 320 (multPO startPO)), (V.ints .u64 20 zeroPO), (V.int .i64 i), t19, t20, t21, t22, t23, t24, t25, t26, t27, t28, t29, t30, t31, t32, t33, t34, t35, t36, t37, t38, t39, V.un], [(V.ints .u8 32 e), (V.ints .u64 20 q), (V.ints .u8 32 f), (V.ints .u64 20 (fun _ => 0)), (V.ints .u64 20 startPO), (V.ints .u64 320 (multPO q)), (V.ints .u64 320 (multPO startPO)), (V.ints .u64 20 a)]⟩ = (okV R (V.ints .u64 20 a)) := by kernel_rfl

/-- The content behind one round more. -/
noncomputable def combineA_st (e : (Nat → Int)) (q : (Nat → Int)) (f : (Nat → Int)) (i : Int) (a : Nat → Int) : Nat → Int := (addPO (addPO (doublePO (doublePO (doublePO (doublePO a)))) (sh (0 + (Int.toNat (nibbleF e i) * 20)) (multPO q))) (sh (0 + (Int.toNat (nibbleF f i) * 20)) (multPO startPO)))
noncomputable def combineA_it (e : (Nat → Int)) (q : (Nat → Int)) (f : (Nat → Int)) : Nat → (Nat → Int)
  | 0 => zeroPO
  | k + 1 => combineA_st e q f (k : Int) (combineA_it e q f k)
theorem combineA_l (e : (Nat → Int)) (q : (Nat → Int)) (f : (Nat → Int)) (Q : Exit → St → Prop) (hQ : ∀ (t11 t19 t20 t21 t22 t23 t24 t25 t26 t27 t28 t29 t30 t31 t32 t33 t34 t35 t36 t37 t38 t39 : V), Q (.exit 0) ⟨[(V.ints .u8 32 e), (V.ints .u64 20 q), (V.ints .u8 32 f), (V.ptr 0 0), (V.ptr 1 0), (V.ptr 2 0), (V.ptr 3 0), (V.ptr 4 0), (V.ptr 5 0), (V.ptr 6 0), (V.ptr 7 0), t11, (V.ints .u64 20 startPO), (V.ints .u64 20 q), (V.ints .u64 320 (multPO q)), (V.ints .u64 20 startPO), (V.ints .u64 320 (multPO startPO)), (V.ints .u64 20 zeroPO), (V.int .i64 ((64 : Nat) : Int)), t19, t20, t21, t22, t23, t24, t25, t26, t27, t28, t29, t30, t31, t32, t33, t34, t35, t36, t37, t38, t39, V.un], [(V.ints .u8 32 e), (V.ints .u64 20 q), (V.ints .u8 32 f), (V.ints .u64 20 (fun _ => 0)), (V.ints .u64 20 startPO), (V.ints .u64 320 (multPO q)), (V.ints .u64 320 (multPO startPO)), (V.ints .u64 20 (combineA_it e q f 64))]⟩) : ∀ (d k n : Nat), k + d = 64 → d + 1 ≤ n → ∀ (t11 t19 t20 t21 t22 t23 t24 t25 t26 t27 t28 t29 t30 t31 t32 t33 t34 t35 t36 t37 t38 t39 : V), lp (awp Try.prog o64O noG 300 (loopOf (body Try.f75))) Q n ⟨[(V.ints .u8 32 e), (V.ints .u64 20 q), (V.ints .u8 32 f), (V.ptr 0 0), (V.ptr 1 0), (V.ptr 2 0), (V.ptr 3 0), (V.ptr 4 0), (V.ptr 5 0), (V.ptr 6 0), (V.ptr 7 0), t11, (V.ints .u64 20 startPO), (V.ints .u64 20 q), (V.ints .u64 320 (multPO q)), (V.ints .u64 20 startPO), (V.ints .u64 320 (multPO startPO)), (V.ints .u64 20 zeroPO), (V.int .i64 (k : Int)), t19, t20, t21, t22, t23, t24, t25, t26, t27, t28, t29, t30, t31, t32, t33, t34, t35, t36, t37, t38, t39, V.un], [(V.ints .u8 32 e), (V.ints .u64 20 q), (V.ints .u8 32 f), (V.ints .u64 20 (fun _ => 0)), (V.ints .u64 20 startPO), (V.ints .u64 320 (multPO q)), (V.ints .u64 320 (multPO startPO)), (V.ints .u64 20 (combineA_it e q f k))]⟩
  | 0, k, n, hk, hn, t11, t19, t20, t21, t22, t23, t24, t25, t26, t27, t28, t29, t30, t31, t32, t33, t34, t35, t36, t37, t38, t39 => by
    obtain ⟨n, rfl⟩ : ∃ m, n = m + 1 := ⟨n - 1, by omega⟩
    obtain rfl : k = 64 := by omega
    rw [combineA_s]
    refine mBt (fun h => absurd (of_decide_eq_true h) (by simp)) (fun _ => ?_)
    exact hQ _ _ _ _ _ _ _ _ _ _ _ _ _ _ _ _ _ _ _ _ _ _
  | d + 1, k, n, hk, hn, t11, t19, t20, t21, t22, t23, t24, t25, t26, t27, t28, t29, t30, t31, t32, t33, t34, t35, t36, t37, t38, t39 => by
    obtain ⟨n, rfl⟩ : ∃ m, n = m + 1 := ⟨n - 1, by omega⟩
    have hi : (0 : Int) ≤ (k : Int) ∧ (k : Int) < 64 := by omega
    have g0 : (nibOK (k : Int)) = true := by first | exact decide_eq_true (nibble_lt _ _) | (refine bleT.2 ?_; have hn1 := nibble_lt e (k : Int); have hn2 := nibble_lt f (k : Int); omega) | exact decide_eq_true (by omega)
    have g1 : (decide (0 ≤ (nibbleF e (k : Int)) ∧ (nibbleF e (k : Int)) < 16)) = true := by first | exact decide_eq_true (nibble_lt _ _) | (refine bleT.2 ?_; have hn1 := nibble_lt e (k : Int); have hn2 := nibble_lt f (k : Int); omega) | exact decide_eq_true (by omega)
    have g2 : (Nat.ble ((0 + (Int.toNat (nibbleF e (k : Int)) * 20)) + 20) 320) = true := by first | exact decide_eq_true (nibble_lt _ _) | (refine bleT.2 ?_; have hn1 := nibble_lt e (k : Int); have hn2 := nibble_lt f (k : Int); omega) | exact decide_eq_true (by omega)
    have g3 : (decide (0 ≤ (nibbleF f (k : Int)) ∧ (nibbleF f (k : Int)) < 16)) = true := by first | exact decide_eq_true (nibble_lt _ _) | (refine bleT.2 ?_; have hn1 := nibble_lt e (k : Int); have hn2 := nibble_lt f (k : Int); omega) | exact decide_eq_true (by omega)
    have g4 : (Nat.ble ((0 + (Int.toNat (nibbleF f (k : Int)) * 20)) + 20) 320) = true := by first | exact decide_eq_true (nibble_lt _ _) | (refine bleT.2 ?_; have hn1 := nibble_lt e (k : Int); have hn2 := nibble_lt f (k : Int); omega) | exact decide_eq_true (by omega)
    have hnx : (addI .i64 (k : Int) 1) = ((k + 1 : Nat) : Int) := by exact add1_nat k (by omega)
    rw [combineA_s]
    refine mBt (fun _ => ?_) (fun h => absurd hi.2 (of_decide_eq_false h))
    refine gm g0 ?_
    refine gm g1 ?_
    refine gm g2 ?_
    refine gm g0 ?_
    refine gm g3 ?_
    refine gm g4 ?_
    rw [hnx]
    have h := combineA_l e q f Q hQ d (k + 1) n (by omega) (by omega)
    simp only [combineA_it, combineA_st] at h
    exact h _ _ _ _ _ _ _ _ _ _ _ _ _ _ _ _ _ _ _ _ _ _

theorem combineB_s (e : (Nat → Int)) (q : (Nat → Int)) (f : (Nat → Int)) (a : Nat → Int) (i : Int) (t11 t19 t20 t21 t22 t23 t24 t25 t26 t27 t28 t29 t30 t31 t32 t33 t34 t35 t36 t37 t38 t39 : V) (Q : Exit → St → Prop) (n : Nat) : lp (awp Try.prog o64O noG 300 (loopOf (body Try.f75))) Q (n + 1) ⟨[(V.ints .u8 32 e), (V.ints .u64 20 q), (V.ints .u8 32 f), (V.ptr 0 0), (V.ptr 1 0), (V.ptr 2 0), (V.ptr 3 0), (V.ptr 4 0), (V.ptr 6 0), (V.ptr 5 0), (V.ptr 7 0), t11, (V.ints .u64 20 startPO), (V.ints .u64 20 q), (V.ints .u64 320 (multPO q)), (V.ints .u64 20 startPO), (V.ints .u64 320 (multPO startPO)), (V.ints .u64 20 zeroPO), (V.int .i64 i), t19, t20, t21, t22, t23, t24, t25, t26, t27, t28, t29, t30, t31, t32, t33, t34, t35, t36, t37, t38, t39, V.un], [(V.ints .u8 32 e), (V.ints .u64 20 q), (V.ints .u8 32 f), (V.ints .u64 20 (fun _ => 0)), (V.ints .u64 20 startPO), (V.ints .u64 320 (multPO startPO)), (V.ints .u64 320 (multPO q)), (V.ints .u64 20 a)]⟩ = (mB (decide (i < 64)) (gB (nibOK i) (gB (decide (0 ≤ (nibbleF e i) ∧ (nibbleF e i) < 16)) (gB (Nat.ble ((0 + (Int.toNat (nibbleF e i) * 20)) + 20) 320) (gB (nibOK i) (gB (decide (0 ≤ (nibbleF f i) ∧ (nibbleF f i) < 16)) (gB (Nat.ble ((0 + (Int.toNat (nibbleF f i) * 20)) + 20) 320) (lp (awp Try.prog o64O noG 300 (loopOf (body Try.f75))) Q n ⟨[(V.ints .u8 32 e), (V.ints .u64 20 q), (V.ints .u8 32 f), (V.ptr 0 0), (V.ptr 1 0), (V.ptr 2 0), (V.ptr 3 0), (V.ptr 4 0), (V.ptr 6 0), (V.ptr 5 0), (V.ptr 7 0), (V.int .i64 i), (V.ints .u64 20 startPO), (V.ints .u64 20 q), (V.ints .u64 320 (multPO q)), (V.ints .u64 20 startPO), (V.ints .u64 320 (multPO startPO)), (V.ints .u64 20 zeroPO), (V.int .i64 (addI .i64 i 1)), (V.bool (decide (i < 64))), (V.int .i64 i), (V.int .i64 4), (V.bool false), (V.ints .u64 20 (doublePO (doublePO (doublePO a)))), (V.ints .u64 20 (doublePO (doublePO (doublePO (doublePO a))))), (V.int .i64 4), (V.ints .u64 20 (doublePO (doublePO (doublePO (doublePO a))))), (V.ints .u8 32 e), (V.int .i64 i), (V.int .u8 (nibbleF e i)), (V.ptr 6 (0 + (Int.toNat (nibbleF e i) * 20))), (V.ints .u64 20 (sh (0 + (Int.toNat (nibbleF e i) * 20)) (multPO q))), (V.ints .u64 20 (addPO (doublePO (doublePO (doublePO (doublePO a)))) (sh (0 + (Int.toNat (nibbleF e i) * 20)) (multPO q)))), (V.ints .u8 32 f), (V.int .i64 i), (V.int .u8 (nibbleF f i)), (V.ptr 5 (0 + (Int.toNat (nibbleF f i) * 20))), (V.ints .u64 20 (sh (0 + (Int.toNat (nibbleF f i) * 20)) (multPO startPO))), (V.ints .u64 20 (addPO (addPO (doublePO (doublePO (doublePO (doublePO a)))) (sh (0 + (Int.toNat (nibbleF e i) * 20)) (multPO q))) (sh (0 + (Int.toNat (nibbleF f i) * 20)) (multPO startPO)))), (V.int .i64 (addI .i64 i 1)), V.un], [(V.ints .u8 32 e), (V.ints .u64 20 q), (V.ints .u8 32 f), (V.ints .u64 20 (fun _ => 0)), (V.ints .u64 20 startPO), (V.ints .u64 320 (multPO startPO)), (V.ints .u64 320 (multPO q)), (V.ints .u64 20 (addPO (addPO (doublePO (doublePO (doublePO (doublePO a)))) (sh (0 + (Int.toNat (nibbleF e i) * 20)) (multPO q))) (sh (0 + (Int.toNat (nibbleF f i) * 20)) (multPO startPO))))]⟩))))))) (Q (.exit 0) ⟨[(V.ints .u8 32 e), (V.ints .u64 20 q), (V.ints .u8 32 f), (V.ptr 0 0), (V.ptr 1 0), (V.ptr 2 0), (V.ptr 3 0), (V.ptr 4 0), (V.ptr 6 0), (V.ptr 5 0), (V.ptr 7 0), t11, (V.ints .u64 20 startPO), (V.ints .u64 20 q), (V.ints .u64 320 (multPO q)), (V.ints .u64 20 startPO), (V.ints .u64 320 (multPO startPO)), (V.ints .u64 20 zeroPO), (V.int .i64 i), (V.bool (decide (i < 64))), t20, t21, t22, t23, t24, t25, t26, t27, t28, t29, t30, t31, t32, t33, t34, t35, t36, t37, t38, t39, V.un], [(V.ints .u8 32 e), (V.ints .u64 20 q), (V.ints .u8 32 f), (V.ints .u64 20 (fun _ => 0)), (V.ints .u64 20 startPO), (V.ints .u64 320 (multPO startPO)), (V.ints .u64 320 (multPO q)), (V.ints .u64 20 a)]⟩)) := by kernel_rfl
theorem combineB_x (e : (Nat → Int)) (q : (Nat → Int)) (f : (Nat → Int)) (a : Nat → Int) (i : Int) (t11 t19 t20 t21 t22 t23 t24 t25 t26 t27 t28 t29 t30 t31 t32 t33 t34 t35 t36 t37 t38 t39 : V) (R : V) : spineQ Try.prog o64O noG 300 (body Try.f75) (ends Try.prog Try.f75 fun v _ => okV R v) (.exit 0) ⟨[(V.ints .u8 32 e), (V.ints .u64 20 q), (V.ints .u8 32 f), (V.ptr 0 0), (V.ptr 1 0), (V.ptr 2 0), (V.ptr 3 0), (V.ptr 4 0), (V.ptr 6 0), (V.ptr 5 0), (V.ptr 7 0), t11, (V.ints .u64 20 startPO), (V.ints .u64 20 q), (V.ints .u64 320 (multPO q)), (V.ints .u64 20 startPO), (V.ints .u64 320 (multPO startPO)), (V.ints .u64 20 zeroPO), (V.int .i64 i), t19, t20, t21, t22, t23, t24, t25, t26, t27, t28, t29, t30, t31, t32, t33, t34, t35, t36, t37, t38, t39, V.un], [(V.ints .u8 32 e), (V.ints .u64 20 q), (V.ints .u8 32 f), (V.ints .u64 20 (fun _ => 0)), (V.ints .u64 20 startPO), (V.ints .u64 320 (multPO startPO)), (V.ints .u64 320 (multPO q)), (V.ints .u64 20 a)]⟩ = (okV R (V.ints .u64 20 a)) := by kernel_rfl

theorem combineB_l (e : (Nat → Int)) (q : (Nat → Int)) (f : (Nat → Int)) (Q : Exit → St → Prop) (hQ : ∀ (t11 t19 t20 t21 t22 t23 t24 t25 t26 t27 t28 t29 t30 t31 t32 t33 t34 t35 t36 t37 t38 t39 : V), Q (.exit 0) ⟨[(V.ints .u8 32 e), (V.ints .u64 20 q), (V.ints .u8 32 f), (V.ptr 0 0), (V.ptr 1 0), (V.ptr 2 0), (V.ptr 3 0), (V.ptr 4 0), (V.ptr 6 0), (V.ptr 5 0), (V.ptr 7 0), t11, (V.ints .u64 20 startPO), (V.ints .u64 20 q), (V.ints .u64 320 (multPO q)), (V.ints .u64 20 startPO), (V.ints .u64 320 (multPO startPO)), (V.ints .u64 20 zeroPO), (V.int .i64 ((64 : Nat) : Int)), t19, t20, t21, t22, t23, t24, t25, t26, t27, t28, t29, t30, t31, t32, t33, t34, t35, t36, t37, t38, t39, V.un], [(V.ints .u8 32 e), (V.ints .u64 20 q), (V.ints .u8 32 f), (V.ints .u64 20 (fun _ => 0)), (V.ints .u64 20 startPO), (V.ints .u64 320 (multPO startPO)), (V.ints .u64 320 (multPO q)), (V.ints .u64 20 (combineA_it e q f 64))]⟩) : ∀ (d k n : Nat), k + d = 64 → d + 1 ≤ n → ∀ (t11 t19 t20 t21 t22 t23 t24 t25 t26 t27 t28 t29 t30 t31 t32 t33 t34 t35 t36 t37 t38 t39 : V), lp (awp Try.prog o64O noG 300 (loopOf (body Try.f75))) Q n ⟨[(V.ints .u8 32 e), (V.ints .u64 20 q), (V.ints .u8 32 f), (V.ptr 0 0), (V.ptr 1 0), (V.ptr 2 0), (V.ptr 3 0), (V.ptr 4 0), (V.ptr 6 0), (V.ptr 5 0), (V.ptr 7 0), t11, (V.ints .u64 20 startPO), (V.ints .u64 20 q), (V.ints .u64 320 (multPO q)), (V.ints .u64 20 startPO), (V.ints .u64 320 (multPO startPO)), (V.ints .u64 20 zeroPO), (V.int .i64 (k : Int)), t19, t20, t21, t22, t23, t24, t25, t26, t27, t28, t29, t30, t31, t32, t33, t34, t35, t36, t37, t38, t39, V.un], [(V.ints .u8 32 e), (V.ints .u64 20 q), (V.ints .u8 32 f), (V.ints .u64 20 (fun _ => 0)), (V.ints .u64 20 startPO), (V.ints .u64 320 (multPO startPO)), (V.ints .u64 320 (multPO q)), (V.ints .u64 20 (combineA_it e q f k))]⟩
  | 0, k, n, hk, hn, t11, t19, t20, t21, t22, t23, t24, t25, t26, t27, t28, t29, t30, t31, t32, t33, t34, t35, t36, t37, t38, t39 => by
    obtain ⟨n, rfl⟩ : ∃ m, n = m + 1 := ⟨n - 1, by omega⟩
    obtain rfl : k = 64 := by omega
    rw [combineB_s]
    refine mBt (fun h => absurd (of_decide_eq_true h) (by simp)) (fun _ => ?_)
    exact hQ _ _ _ _ _ _ _ _ _ _ _ _ _ _ _ _ _ _ _ _ _ _
  | d + 1, k, n, hk, hn, t11, t19, t20, t21, t22, t23, t24, t25, t26, t27, t28, t29, t30, t31, t32, t33, t34, t35, t36, t37, t38, t39 => by
    obtain ⟨n, rfl⟩ : ∃ m, n = m + 1 := ⟨n - 1, by omega⟩
    have hi : (0 : Int) ≤ (k : Int) ∧ (k : Int) < 64 := by omega
    have g0 : (nibOK (k : Int)) = true := by first | exact decide_eq_true (nibble_lt _ _) | (refine bleT.2 ?_; have hn1 := nibble_lt e (k : Int); have hn2 := nibble_lt f (k : Int); omega) | exact decide_eq_true (by omega)
    have g1 : (decide (0 ≤ (nibbleF e (k : Int)) ∧ (nibbleF e (k : Int)) < 16)) = true := by first | exact decide_eq_true (nibble_lt _ _) | (refine bleT.2 ?_; have hn1 := nibble_lt e (k : Int); have hn2 := nibble_lt f (k : Int); omega) | exact decide_eq_true (by omega)
    have g2 : (Nat.ble ((0 + (Int.toNat (nibbleF e (k : Int)) * 20)) + 20) 320) = true := by first | exact decide_eq_true (nibble_lt _ _) | (refine bleT.2 ?_; have hn1 := nibble_lt e (k : Int); have hn2 := nibble_lt f (k : Int); omega) | exact decide_eq_true (by omega)
    have g3 : (decide (0 ≤ (nibbleF f (k : Int)) ∧ (nibbleF f (k : Int)) < 16)) = true := by first | exact decide_eq_true (nibble_lt _ _) | (refine bleT.2 ?_; have hn1 := nibble_lt e (k : Int); have hn2 := nibble_lt f (k : Int); omega) | exact decide_eq_true (by omega)
    have g4 : (Nat.ble ((0 + (Int.toNat (nibbleF f (k : Int)) * 20)) + 20) 320) = true := by first | exact decide_eq_true (nibble_lt _ _) | (refine bleT.2 ?_; have hn1 := nibble_lt e (k : Int); have hn2 := nibble_lt f (k : Int); omega) | exact decide_eq_true (by omega)
    have hnx : (addI .i64 (k : Int) 1) = ((k + 1 : Nat) : Int) := by exact add1_nat k (by omega)
    rw [combineB_s]
    refine mBt (fun _ => ?_) (fun h => absurd hi.2 (of_decide_eq_false h))
    refine gm g0 ?_
    refine gm g1 ?_
    refine gm g2 ?_
    refine gm g0 ?_
    refine gm g3 ?_
    refine gm g4 ?_
    rw [hnx]
    have h := combineB_l e q f Q hQ d (k + 1) n (by omega) (by omega)
    simp only [combineA_it, combineA_st] at h
    exact h _ _ _ _ _ _ _ _ _ _ _ _ _ _ _ _ _ _ _ _ _ _

noncomputable def combineP (e q f : Nat → Int) : Nat → Int := combineA_it e q f 64
theorem combineP_a (e : (Nat → Int)) (q : (Nat → Int)) (f : (Nat → Int)) : awp Try.prog o64O noG 300 (body Try.f75) (ends Try.prog Try.f75 fun v _ => okV (V.ints .u64 20 (combineP e q f)) v) ⟨[(V.ints .u8 32 e), (V.ints .u64 20 q), (V.ints .u8 32 f)] ++ List.replicate 38 V.un, []⟩ := by
  rw [combineP_h]
  exact ⟨combineA_l e q f _ (fun _ _ _ _ _ _ _ _ _ _ _ _ _ _ _ _ _ _ _ _ _ _ => by rw [combineA_x]; exact okV_refl rfl) 64 0 300 (by omega) (by omega) _ _ _ _ _ _ _ _ _ _ _ _ _ _ _ _ _ _ _ _ _ _, combineB_l e q f _ (fun _ _ _ _ _ _ _ _ _ _ _ _ _ _ _ _ _ _ _ _ _ _ => by rw [combineB_x]; exact okV_refl rfl) 64 0 300 (by omega) (by omega) _ _ _ _ _ _ _ _ _ _ _ _ _ _ _ _ _ _ _ _ _ _⟩

noncomputable def g75 : List V → Option (Bool × V) := fun | [.ints .u8 32 e, .ints .u64 20 q, .ints .u8 32 f] => some (true, (V.ints .u64 20 (combineP e q f))) | _ => none
theorem combineP_p (e : (Nat → Int)) (q : (Nat → Int)) (f : (Nat → Int)) : (∀ μ μ', V.den μ' (V.ints .u64 20 (combineP e q f)) = V.den μ (V.ints .u64 20 (combineP e q f))) ∧ ∀ μ w, PureAt Try.prog 75 (([(V.ints .u8 32 e), (V.ints .u64 20 q), (V.ints .u8 32 f)] : List V).map (V.den μ)).toArray (V.den μ (V.ints .u64 20 (combineP e q f))) w :=
  pure_ok (F := o64O) (N := 300) (fn := Try.f75) (args := [(V.ints .u8 32 e), (V.ints .u64 20 q), (V.ints .u8 32 f)]) (r := (V.ints .u64 20 (combineP e q f))) (n := 38) hM o64O_ok (noG_ok _) Try.func75 (by kernel_rfl) (by kernel_rfl) (by kernel_rfl) (by kernel_rfl) (combineP_a e q f) (by kernel_rfl)
theorem g75_ok (vs : List V) (v : V) (h : g75 vs = some (true, v)) : (∀ μ μ', v.den μ' = v.den μ) ∧ ∀ μ w, PureAt Try.prog 75 (vs.map (V.den μ)).toArray (v.den μ) w := by
  unfold g75 at h
  split at h
  · simp only [Option.some.injEq, Prod.mk.injEq, true_and] at h
    subst h
    exact combineP_p _ _ _
  · simp at h
noncomputable def o75 : Orc := ext 75 g75 o64O
theorem o75_ok : OrcOK Try.prog o75 := ext_ok o64O_ok g75_ok

theorem combinePO_ex : ∃ f : (Nat → Int) → (Nat → Int) → (Nat → Int) → (Nat → Int), f = combineP := ⟨_, rfl⟩
/-- combineP, by a name that is not unfolded. -/
noncomputable def combinePO : (Nat → Int) → (Nat → Int) → (Nat → Int) → (Nat → Int) := Classical.choose combinePO_ex
theorem combinePO_eq : combinePO = combineP := Classical.choose_spec combinePO_ex
noncomputable def g75O : List V → Option (Bool × V) := fun | [.ints .u8 32 e, .ints .u64 20 q, .ints .u8 32 f] => some (true, (V.ints .u64 20 (combinePO e q f))) | _ => none
theorem g75O_ok (vs : List V) (v : V) (h : g75O vs = some (true, v)) : (∀ μ μ', v.den μ' = v.den μ) ∧ ∀ μ w, PureAt Try.prog 75 (vs.map (V.den μ)).toArray (v.den μ) w := by
  unfold g75O at h
  split at h
  · simp only [Option.some.injEq, Prod.mk.injEq, true_and] at h
    subst h
    rw [combinePO_eq]
    exact combineP_p _ _ _
  · simp at h
noncomputable def o75O : Orc := ext 75 g75O o75
theorem o75O_ok : OrcOK Try.prog o75O := ext_ok o75_ok g75O_ok

/-- What goes over when two numbers of 32 bytes are summed. -/
noncomputable def uO (a b : Nat → Int) : Nat → Int
  | 0 => 0
  | k + 1 => quoI .i64 (addI .i64 (addI .i64 (IntKind.wrap .i64 (a k)) (IntKind.wrap .i64 (b k))) (uO a b k)) 256
noncomputable def uS (a b : Nat → Int) : Nat → Int := (up 31 (IntKind.wrap .u8 (remI (addI .i64 (addI .i64 (IntKind.wrap .i64 (a 31)) (IntKind.wrap .i64 (b 31))) (uO a b 31)) 256)) (up 30 (IntKind.wrap .u8 (remI (addI .i64 (addI .i64 (IntKind.wrap .i64 (a 30)) (IntKind.wrap .i64 (b 30))) (uO a b 30)) 256)) (up 29 (IntKind.wrap .u8 (remI (addI .i64 (addI .i64 (IntKind.wrap .i64 (a 29)) (IntKind.wrap .i64 (b 29))) (uO a b 29)) 256)) (up 28 (IntKind.wrap .u8 (remI (addI .i64 (addI .i64 (IntKind.wrap .i64 (a 28)) (IntKind.wrap .i64 (b 28))) (uO a b 28)) 256)) (up 27 (IntKind.wrap .u8 (remI (addI .i64 (addI .i64 (IntKind.wrap .i64 (a 27)) (IntKind.wrap .i64 (b 27))) (uO a b 27)) 256)) (up 26 (IntKind.wrap .u8 (remI (addI .i64 (addI .i64 (IntKind.wrap .i64 (a 26)) (IntKind.wrap .i64 (b 26))) (uO a b 26)) 256)) (up 25 (IntKind.wrap .u8 (remI (addI .i64 (addI .i64 (IntKind.wrap .i64 (a 25)) (IntKind.wrap .i64 (b 25))) (uO a b 25)) 256)) (up 24 (IntKind.wrap .u8 (remI (addI .i64 (addI .i64 (IntKind.wrap .i64 (a 24)) (IntKind.wrap .i64 (b 24))) (uO a b 24)) 256)) (up 23 (IntKind.wrap .u8 (remI (addI .i64 (addI .i64 (IntKind.wrap .i64 (a 23)) (IntKind.wrap .i64 (b 23))) (uO a b 23)) 256)) (up 22 (IntKind.wrap .u8 (remI (addI .i64 (addI .i64 (IntKind.wrap .i64 (a 22)) (IntKind.wrap .i64 (b 22))) (uO a b 22)) 256)) (up 21 (IntKind.wrap .u8 (remI (addI .i64 (addI .i64 (IntKind.wrap .i64 (a 21)) (IntKind.wrap .i64 (b 21))) (uO a b 21)) 256)) (up 20 (IntKind.wrap .u8 (remI (addI .i64 (addI .i64 (IntKind.wrap .i64 (a 20)) (IntKind.wrap .i64 (b 20))) (uO a b 20)) 256)) (up 19 (IntKind.wrap .u8 (remI (addI .i64 (addI .i64 (IntKind.wrap .i64 (a 19)) (IntKind.wrap .i64 (b 19))) (uO a b 19)) 256)) (up 18 (IntKind.wrap .u8 (remI (addI .i64 (addI .i64 (IntKind.wrap .i64 (a 18)) (IntKind.wrap .i64 (b 18))) (uO a b 18)) 256)) (up 17 (IntKind.wrap .u8 (remI (addI .i64 (addI .i64 (IntKind.wrap .i64 (a 17)) (IntKind.wrap .i64 (b 17))) (uO a b 17)) 256)) (up 16 (IntKind.wrap .u8 (remI (addI .i64 (addI .i64 (IntKind.wrap .i64 (a 16)) (IntKind.wrap .i64 (b 16))) (uO a b 16)) 256)) (up 15 (IntKind.wrap .u8 (remI (addI .i64 (addI .i64 (IntKind.wrap .i64 (a 15)) (IntKind.wrap .i64 (b 15))) (uO a b 15)) 256)) (up 14 (IntKind.wrap .u8 (remI (addI .i64 (addI .i64 (IntKind.wrap .i64 (a 14)) (IntKind.wrap .i64 (b 14))) (uO a b 14)) 256)) (up 13 (IntKind.wrap .u8 (remI (addI .i64 (addI .i64 (IntKind.wrap .i64 (a 13)) (IntKind.wrap .i64 (b 13))) (uO a b 13)) 256)) (up 12 (IntKind.wrap .u8 (remI (addI .i64 (addI .i64 (IntKind.wrap .i64 (a 12)) (IntKind.wrap .i64 (b 12))) (uO a b 12)) 256)) (up 11 (IntKind.wrap .u8 (remI (addI .i64 (addI .i64 (IntKind.wrap .i64 (a 11)) (IntKind.wrap .i64 (b 11))) (uO a b 11)) 256)) (up 10 (IntKind.wrap .u8 (remI (addI .i64 (addI .i64 (IntKind.wrap .i64 (a 10)) (IntKind.wrap .i64 (b 10))) (uO a b 10)) 256)) (up 9 (IntKind.wrap .u8 (remI (addI .i64 (addI .i64 (IntKind.wrap .i64 (a 9)) (IntKind.wrap .i64 (b 9))) (uO a b 9)) 256)) (up 8 (IntKind.wrap .u8 (remI (addI .i64 (addI .i64 (IntKind.wrap .i64 (a 8)) (IntKind.wrap .i64 (b 8))) (uO a b 8)) 256)) (up 7 (IntKind.wrap .u8 (remI (addI .i64 (addI .i64 (IntKind.wrap .i64 (a 7)) (IntKind.wrap .i64 (b 7))) (uO a b 7)) 256)) (up 6 (IntKind.wrap .u8 (remI (addI .i64 (addI .i64 (IntKind.wrap .i64 (a 6)) (IntKind.wrap .i64 (b 6))) (uO a b 6)) 256)) (up 5 (IntKind.wrap .u8 (remI (addI .i64 (addI .i64 (IntKind.wrap .i64 (a 5)) (IntKind.wrap .i64 (b 5))) (uO a b 5)) 256)) (up 4 (IntKind.wrap .u8 (remI (addI .i64 (addI .i64 (IntKind.wrap .i64 (a 4)) (IntKind.wrap .i64 (b 4))) (uO a b 4)) 256)) (up 3 (IntKind.wrap .u8 (remI (addI .i64 (addI .i64 (IntKind.wrap .i64 (a 3)) (IntKind.wrap .i64 (b 3))) (uO a b 3)) 256)) (up 2 (IntKind.wrap .u8 (remI (addI .i64 (addI .i64 (IntKind.wrap .i64 (a 2)) (IntKind.wrap .i64 (b 2))) (uO a b 2)) 256)) (up 1 (IntKind.wrap .u8 (remI (addI .i64 (addI .i64 (IntKind.wrap .i64 (a 1)) (IntKind.wrap .i64 (b 1))) (uO a b 1)) 256)) (up 0 (IntKind.wrap .u8 (remI (addI .i64 (addI .i64 (IntKind.wrap .i64 (a 0)) (IntKind.wrap .i64 (b 0))) (uO a b 0)) 256)) a))))))))))))))))))))))))))))))))

/- fareboxlaw07.sum -/
noncomputable def sumF (a : (Nat → Int)) (b : (Nat → Int)) : ((Nat → Int) × Bool) := ((uS a b), ((uO a b 32) == 0))
theorem sumF_t (a : (Nat → Int)) (b : (Nat → Int)) : awp Try.prog o75O noG 300 (body Try.f74) (ends Try.prog Try.f74 fun v _ => okV (V.tup [(V.ints .u8 32 (sumF a b).1), (V.bool (sumF a b).2)]) v) ⟨[(V.ints .u8 32 a), (V.ints .u8 32 b)] ++ List.replicate 32 V.un, []⟩ = ((V.tup [(V.ints .u8 32 (sumF a b).1), (V.bool (sumF a b).2)]).den z0 = (V.tup [(V.ints .u8 32 (sumF a b).1), (V.bool (sumF a b).2)]).den z0) := by kernel_rfl
theorem sumF_a (a : (Nat → Int)) (b : (Nat → Int)) : awp Try.prog o75O noG 300 (body Try.f74) (ends Try.prog Try.f74 fun v _ => okV (V.tup [(V.ints .u8 32 (sumF a b).1), (V.bool (sumF a b).2)]) v) ⟨[(V.ints .u8 32 a), (V.ints .u8 32 b)] ++ List.replicate 32 V.un, []⟩ := by rw [sumF_t]
noncomputable def g74 : List V → Option (Bool × V) := fun | [.ints .u8 32 a, .ints .u8 32 b] => some (true, (V.tup [(V.ints .u8 32 (sumF a b).1), (V.bool (sumF a b).2)])) | _ => none
theorem sumF_p (a : (Nat → Int)) (b : (Nat → Int)) : (∀ μ μ', V.den μ' (V.tup [(V.ints .u8 32 (sumF a b).1), (V.bool (sumF a b).2)]) = V.den μ (V.tup [(V.ints .u8 32 (sumF a b).1), (V.bool (sumF a b).2)])) ∧ ∀ μ w, PureAt Try.prog 74 (([(V.ints .u8 32 a), (V.ints .u8 32 b)] : List V).map (V.den μ)).toArray (V.den μ (V.tup [(V.ints .u8 32 (sumF a b).1), (V.bool (sumF a b).2)])) w :=
  pure_ok (F := o75O) (N := 300) (fn := Try.f74) (args := [(V.ints .u8 32 a), (V.ints .u8 32 b)]) (r := (V.tup [(V.ints .u8 32 (sumF a b).1), (V.bool (sumF a b).2)])) (n := 32) hM o75O_ok (noG_ok _) Try.func74 (by kernel_rfl) (by kernel_rfl) (by kernel_rfl) (by kernel_rfl) (sumF_a a b) (by kernel_rfl)
theorem g74_ok (vs : List V) (v : V) (h : g74 vs = some (true, v)) : (∀ μ μ', v.den μ' = v.den μ) ∧ ∀ μ w, PureAt Try.prog 74 (vs.map (V.den μ)).toArray (v.den μ) w := by
  unfold g74 at h
  split at h
  · simp only [Option.some.injEq, Prod.mk.injEq, true_and] at h
    subst h
    exact sumF_p _ _
  · simp at h
noncomputable def o74 : Orc := ext 74 g74 o75O
theorem o74_ok : OrcOK Try.prog o74 := ext_ok o75O_ok g74_ok

theorem sumFO_ex : ∃ f : (Nat → Int) → (Nat → Int) → ((Nat → Int) × Bool), f = sumF := ⟨_, rfl⟩
/-- sumF, by a name that is not unfolded. -/
noncomputable def sumFO : (Nat → Int) → (Nat → Int) → ((Nat → Int) × Bool) := Classical.choose sumFO_ex
theorem sumFO_eq : sumFO = sumF := Classical.choose_spec sumFO_ex
noncomputable def g74O : List V → Option (Bool × V) := fun | [.ints .u8 32 a, .ints .u8 32 b] => some (true, (V.tup [(V.ints .u8 32 (sumFO a b).1), (V.bool (sumFO a b).2)])) | _ => none
theorem g74O_ok (vs : List V) (v : V) (h : g74O vs = some (true, v)) : (∀ μ μ', v.den μ' = v.den μ) ∧ ∀ μ w, PureAt Try.prog 74 (vs.map (V.den μ)).toArray (v.den μ) w := by
  unfold g74O at h
  split at h
  · simp only [Option.some.injEq, Prod.mk.injEq, true_and] at h
    subst h
    rw [sumFO_eq]
    exact sumF_p _ _
  · simp at h
noncomputable def o74O : Orc := ext 74 g74O o74
theorem o74O_ok : OrcOK Try.prog o74O := ext_ok o74_ok g74O_ok
end Go.Proofs.Ytbnclikjbnfodaa
