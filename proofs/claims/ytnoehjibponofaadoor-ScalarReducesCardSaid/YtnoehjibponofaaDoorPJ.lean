/-
  reduce: what it comes to, as a number. Conditions: none.
-/
import Derived.Test.YtnoehjibponofaaDoorPI
namespace Go.Proofs.YtnoehjibponofaaDoor
open Go.Ev
/-- The order L. -/
def LL : Int := 7237005577332262213973186563042994240857116359379907606001950938285454250989
/-- The words of a number. -/
def wF (n : Int) : Nat → Int := fun j => n / 18446744073709551616 ^ j % 18446744073709551616
theorem words_at {a : Nat → Int} (ha : u4 a = true) : ∀ j, j < 4 → a j = wF (lv4 a) j := by
  have A := u4_at ha
  have a0 := A 0 (by omega); have a1 := A 1 (by omega); have a2 := A 2 (by omega); have a3 := A 3 (by omega)
  intro j hj
  have : j = 0 ∨ j = 1 ∨ j = 2 ∨ j = 3 := by omega
  unfold wF lv4
  clear A ha
  rcases this with rfl | rfl | rfl | rfl <;> simp only [Int.reducePow] <;> omega
theorem ints_eq {k : IntKind} {n : Nat} {f g : Nat → Int} (h : ∀ j, j < n → f j = g j) : (V.ints k n f).den z0 = (V.ints k n g).den z0 := by
  simp only [V.den]
  congr 2
  apply List.map_congr_left
  intro j hj
  rw [h j (List.mem_range.1 hj)]
theorem words_eq {a : Nat → Int} (ha : u4 a = true) : (V.ints .u64 4 a).den z0 = (V.ints .u64 4 (wF (lv4 a))).den z0 := ints_eq (words_at ha)
theorem wF_u4 (n : Int) : u4 (wF n) = true := u4_mk fun j _ => ⟨by unfold wF; omega, by unfold wF; omega⟩
theorem wF_v {n : Int} (h0 : 0 ≤ n) (h : n < 115792089237316195423570985008687907853269984665640564039457584007913129639936) : lv4 (wF n) = n := by
  unfold lv4 wF
  simp only [Int.reducePow]
  omega
theorem lv4_congr {a b : Nat → Int} (h : ∀ j, j < 4 → a j = b j) : lv4 a = lv4 b := by
  unfold lv4
  rw [h 0 (by omega), h 1 (by omega), h 2 (by omega), h 3 (by omega)]
theorem u4_congr {a b : Nat → Int} (h : ∀ j, j < 4 → a j = b j) : u4 a = u4 b := by
  unfold u4
  rw [h 0 (by omega), h 1 (by omega), h 2 (by omega), h 3 (by omega)]
theorem plus_small {x y : Nat → Int} (hx : u4 x = true) (hy : u4 y = true) (h : lv4 x + lv4 y < 115792089237316195423570985008687907853269984665640564039457584007913129639936) : lv4 (plusF x y) = lv4 x + lv4 y ∧ u4 (plusF x y) = true := by
  obtain ⟨h1, h2⟩ := plus_v hx hy
  have h3 := lv4_nn h2
  have h4 := pc_nn x y 4
  exact ⟨by omega, h2⟩
theorem fold0 {S x : Nat → Int} {n : Nat} (h0 : u4 (sh 0 S) = true) (h4 : u4 (sh 4 S) = true) (hl : u4 (lowF n x) = true) (h : lv4 (sh 0 S) + lv4 (lowF n x) < 115792089237316195423570985008687907853269984665640564039457584007913129639936) :
    u4 (sh 0 (fold S 0 n x)) = true ∧ u4 (sh 4 (fold S 0 n x)) = true ∧ lv4 (sh 0 (fold S 0 n x)) = lv4 (sh 0 S) + lv4 (lowF n x) ∧ lv4 (sh 4 (fold S 0 n x)) = lv4 (sh 4 S) := by
  obtain ⟨p1, p2⟩ := plus_small h0 hl h
  have e0 : ∀ j, j < 4 → sh 0 (fold S 0 n x) j = plusF (sh 0 S) (lowF n x) j := by
    intro j hj
    unfold fold
    rw [plusO_eq, sh_at, spl_at _ _ _ _ _ _ (by omega), if_pos (by omega)]
    rw [show 0 + j - 0 = j by omega]
  have e4 : ∀ j, j < 4 → sh 4 (fold S 0 n x) j = sh 4 S j := by
    intro j hj
    unfold fold
    rw [sh_at, spl_at _ _ _ _ _ _ (by omega), if_neg (by omega), sh_at]
  rw [u4_congr e0, u4_congr e4, lv4_congr e0, lv4_congr e4]
  exact ⟨p2, h4, p1, rfl⟩
theorem fold4 {S x : Nat → Int} {n : Nat} (h0 : u4 (sh 0 S) = true) (h4 : u4 (sh 4 S) = true) (hl : u4 (lowF n x) = true) (h : lv4 (sh 4 S) + lv4 (lowF n x) < 115792089237316195423570985008687907853269984665640564039457584007913129639936) :
    u4 (sh 0 (fold S 4 n x)) = true ∧ u4 (sh 4 (fold S 4 n x)) = true ∧ lv4 (sh 0 (fold S 4 n x)) = lv4 (sh 0 S) ∧ lv4 (sh 4 (fold S 4 n x)) = lv4 (sh 4 S) + lv4 (lowF n x) := by
  obtain ⟨p1, p2⟩ := plus_small h4 hl h
  have e0 : ∀ j, j < 4 → sh 0 (fold S 4 n x) j = sh 0 S j := by
    intro j hj
    unfold fold
    rw [sh_at, spl_at _ _ _ _ _ _ (by omega), if_neg (by omega), sh_at]
  have e4 : ∀ j, j < 4 → sh 4 (fold S 4 n x) j = plusF (sh 4 S) (lowF n x) j := by
    intro j hj
    unfold fold
    rw [plusO_eq, sh_at, spl_at _ _ _ _ _ _ (by omega), if_pos (by omega)]
    rw [show 4 + j - 4 = j by omega]
  rw [u4_congr e0, u4_congr e4, lv4_congr e0, lv4_congr e4]
  exact ⟨h0, p2, rfl, p1⟩
theorem Z0_u : u4 (sh 0 Z0) = true ∧ u4 (sh 4 Z0) = true ∧ lv4 (sh 0 Z0) = 0 ∧ lv4 (sh 4 Z0) = 0 := ⟨by decide, by decide, by decide, by decide⟩
theorem u4O_t {a : Nat → Int} (h : u4 a = true) : u4O a = true := by rw [u4O_eq]; exact h
theorem both {a b : Bool} (ha : a = true) (hb : b = true) : (a && b) = true := by rw [ha, hb]; rfl
/-- The four folds. -/
theorem fold_all {f x1 x2 x3 : Nat → Int} {n0 n1 n2 n3 : Nat} (h0 : ∀ j, j < n0 → U1 (f j)) (h1 : ∀ j, j < n1 → U1 (x1 j)) (h2 : ∀ j, j < n2 → U1 (x2 j)) (h3 : ∀ j, j < n3 → U1 (x3 j)) :
    (u4O (sh 0 Z0) && u4O (lowF n0 f)) = true ∧ (u4O (sh 4 (fold Z0 0 n0 f)) && u4O (lowF n1 x1)) = true ∧ (u4O (sh 0 (fold (fold Z0 0 n0 f) 4 n1 x1)) && u4O (lowF n2 x2)) = true ∧
    (u4O (sh 4 (fold (fold (fold Z0 0 n0 f) 4 n1 x1) 0 n2 x2)) && u4O (lowF n3 x3)) = true ∧ u4 (sh 0 (redS f x1 x2 x3 n0 n1 n2 n3)) = true ∧ u4 (sh 4 (redS f x1 x2 x3 n0 n1 n2 n3)) = true ∧
    lv4 (sh 0 (redS f x1 x2 x3 n0 n1 n2 n3)) = lv4 (lowF n0 f) + lv4 (lowF n2 x2) ∧ lv4 (sh 4 (redS f x1 x2 x3 n0 n1 n2 n3)) = lv4 (lowF n1 x1) + lv4 (lowF n3 x3) := by
  obtain ⟨u0, b0, c0⟩ := low_v h0; obtain ⟨u1, b1, c1⟩ := low_v h1; obtain ⟨u2, b2, c2⟩ := low_v h2; obtain ⟨u3, b3, c3⟩ := low_v h3
  obtain ⟨z0, z4, y0, y4⟩ := Z0_u
  unfold redS
  obtain ⟨p1, p2, p3, p4⟩ := fold0 (S := Z0) (x := f) (n := n0) z0 z4 u0 (by omega)
  have g0 := both (u4O_t z0) (u4O_t u0)
  generalize fold Z0 0 n0 f = S0 at *
  obtain ⟨q1, q2, q3, q4⟩ := fold4 (S := S0) (x := x1) (n := n1) p1 p2 u1 (by omega)
  have g1 := both (u4O_t p2) (u4O_t u1)
  generalize fold S0 4 n1 x1 = S1 at *
  obtain ⟨r1, r2, r3, r4⟩ := fold0 (S := S1) (x := x2) (n := n2) q1 q2 u2 (by omega)
  have g2 := both (u4O_t q1) (u4O_t u2)
  generalize fold S1 0 n2 x2 = S2 at *
  obtain ⟨t1, t2, t3, t4⟩ := fold4 (S := S2) (x := x3) (n := n3) r1 r2 u3 (by omega)
  have g3 := both (u4O_t r2) (u4O_t u3)
  exact ⟨g0, g1, g2, g3, t1, t2, by omega, by omega⟩
/-- What is behind the folds. -/
theorem redM_v {o S : Nat → Int} {a b : Int} (ho : eqN 4 o ordF = true) (h0 : u4 (sh 0 S) = true) (h4 : u4 (sh 4 S) = true) (ha : lv4 (sh 0 S) = a) (hb : lv4 (sh 4 S) = b) (ha1 : a < 14474011154664524427946373126085988481658748083205070504932198000989141204992) (hb1 : b < 14474011154664524427946373126085988481658748083205070504932198000989141204992) :
    (u4O o && u4O o) = true ∧ (u4O (sh 0 S) && u4O (plusO o o)) = true ∧ (u4O (redM o S) && eqN 4 o ordF) = true ∧ (V.ints .u64 4 (belO o (redM o S))).den z0 = (V.ints .u64 4 (wF ((a - b) % LL))).den z0 := by
  obtain ⟨o1, o2⟩ := eq_ord ho
  obtain ⟨p1, p2⟩ := plus_small o1 o1 (by omega)
  have n0 := lv4_nn h0; have n4 := lv4_nn h4
  obtain ⟨q1, q2⟩ := plus_small h0 p2 (by omega)
  have m0 := minus_ge q2 h4 (by omega)
  have m1 := (minus_v q2 h4).2
  have e : redM o S = minusF (plusF (sh 0 S) (plusF o o)) (sh 4 S) := by unfold redM; rw [minusO_eq, plusO_eq]
  have f := fin_ok m1 ho
  rw [e, belO_eq, plusO_eq]
  refine ⟨both (u4O_t o1) (u4O_t o1), both (u4O_t h0) (u4O_t p2), both (u4O_t m1) ho, ?_⟩
  rw [words_eq f.1, f.2.1, m0.1]
  have : (lv4 (plusF (sh 0 S) (plusF o o)) - lv4 (sh 4 S)) % 7237005577332262213973186563042994240857116359379907606001950938285454250989 = (a - b) % LL := by
    rw [q1, p1, o2, ha, hb]
    unfold LL
    omega
  rw [this]
theorem rest_U : ∀ j, j < 2 → U1 (restF j) := by
  intro j hj
  have : j = 0 ∨ j = 1 := by omega
  rcases this with rfl | rfl <;> exact ⟨by decide, by decide⟩
theorem rest_v : lvn 2 restF = 27742317777372353535851937790883648493 := by decide
theorem nx_eq (n : Nat) (x h : Nat → Int) : nx n x h = timesR (hiF n x) restF 2 (n - 3) := by
  unfold nx
  refine times_congr fun j hj => ?_
  rw [apx_at, if_pos hj]
/-- A fold as a number: the words above, times what 2^252 is less L. -/
theorem nx_v {n : Nat} {x : Nat → Int} (h : Nat → Int) (hx : ∀ j, j < n → U1 (x j)) : (∀ j, U1 (nx n x h j)) ∧ lvn (n - 3 + 2) (nx n x h) = lvn (n - 3) (hiF n x) * 27742317777372353535851937790883648493 := by
  have := times_v (n := 2) rest_U (n - 3) (f := hiF n x) (fun j hj => hi_U hx j (by omega))
  rw [nx_eq, ← rest_v]
  exact this
theorem lvn_nn {f : Nat → Int} : ∀ {n : Nat}, (∀ j, j < n → U1 (f j)) → 0 ≤ lvn n f ∧ lvn n f < 18446744073709551616 ^ n
  | 0, _ => ⟨by simp [lvn], by simp [lvn]⟩
  | n + 1, h => by
    obtain ⟨h1, h2⟩ := lvn_nn (n := n) (fun j hj => h j (by omega))
    obtain ⟨a, b⟩ := h n (by omega)
    have hp : (0 : Int) < 18446744073709551616 ^ n := Int.pow_pos (by omega)
    have hm : 0 ≤ f n * 18446744073709551616 ^ n := Int.mul_nonneg a (by omega)
    have hm2 : f n * 18446744073709551616 ^ n ≤ 18446744073709551615 * 18446744073709551616 ^ n := Int.mul_le_mul_of_nonneg_right (by omega) (by omega)
    rw [lvn, Int.pow_succ]
    omega
theorem red8_v {o f h0 h1 h2 : Nat → Int} (hf : ∀ j, j < 8 → U1 (f j)) (ho : eqN 4 o ordF = true) :
    (u4O o && u4O o) = true ∧ (u4O (sh 0 (redS f (nx 8 f h0) (nx 7 (nx 8 f h0) h1) (nx 6 (nx 7 (nx 8 f h0) h1) h2) 8 7 6 5)) && u4O (plusO o o)) = true ∧ (u4O (redM o (redS f (nx 8 f h0) (nx 7 (nx 8 f h0) h1) (nx 6 (nx 7 (nx 8 f h0) h1) h2) 8 7 6 5)) && eqN 4 o ordF) = true ∧
    (V.ints .u64 4 (belO o (redM o (redS f (nx 8 f h0) (nx 7 (nx 8 f h0) h1) (nx 6 (nx 7 (nx 8 f h0) h1) h2) 8 7 6 5)))).den z0 = (V.ints .u64 4 (wF (lvn 8 f % LL))).den z0 := by
  obtain ⟨v1, e1⟩ := nx_v h0 hf
  generalize nx 8 f h0 = x1 at *
  obtain ⟨v2, e2⟩ := nx_v (n := 7) (x := x1) h1 (fun j _ => v1 j)
  generalize nx 7 x1 h1 = x2 at *
  obtain ⟨v3, e3⟩ := nx_v (n := 6) (x := x2) h2 (fun j _ => v2 j)
  generalize nx 6 x2 h2 = x3 at *
  obtain ⟨-, -, -, -, a1, a2, a3, a4⟩ := fold_all (n0 := 8) (n1 := 7) (n2 := 6) (n3 := 5) hf (fun j _ => v1 j) (fun j _ => v2 j) (fun j _ => v3 j)
  have s0 := split_v8 hf
  have s1 := split_v7 (x := x1) (fun j _ => v1 j)
  have s2 := split_v6 (x := x2) (fun j _ => v2 j)
  have s3 := split_v5 (x := x3) (fun j _ => v3 j)
  have l0 := low_v hf
  have l1 := low_v (n := 7) (x := x1) (fun j _ => v1 j)
  have l2 := low_v (n := 6) (x := x2) (fun j _ => v2 j)
  have l3 := low_v (n := 5) (x := x3) (fun j _ => v3 j)
  have b0 := lvn_nn hf
  have p0 := lvn_nn (n := 5) (f := hiF 8 f) (fun j hj => hi_U hf j (by omega))
  have p1 := lvn_nn (n := 4) (f := hiF 7 x1) (fun j hj => hi_U (fun j _ => v1 j) j (by omega))
  have p2 := lvn_nn (n := 3) (f := hiF 6 x2) (fun j hj => hi_U (fun j _ => v2 j) j (by omega))
  have p3 := lvn_nn (n := 2) (f := hiF 5 x3) (fun j hj => hi_U (fun j _ => v3 j) j (by omega))
  simp only [Int.reducePow] at b0
  have r := redM_v ho a1 a2 a3 a4 (by omega) (by omega)
  have e : (lv4 (lowF 8 f) + lv4 (lowF 6 x2) - (lv4 (lowF 7 x1) + lv4 (lowF 5 x3))) % LL = lvn 8 f % LL := by
    simp only [Nat.reduceSub, Nat.reduceAdd] at e1 e2 e3
    unfold LL
    have q0 := p0.1; have q1 := p1.1; have q2 := p2.1; have q3 := p3.1
    clear p0 p1 p2 p3 r a1 a2 a3 a4
    obtain ⟨-, l0, l0'⟩ := l0; obtain ⟨-, l1, l1'⟩ := l1; obtain ⟨-, l2, l2'⟩ := l2; obtain ⟨-, l3, l3'⟩ := l3
    generalize lv4 (lowF 8 f) = L0 at *; generalize lv4 (lowF 7 x1) = L1 at *; generalize lv4 (lowF 6 x2) = L2 at *; generalize lv4 (lowF 5 x3) = L3 at *
    generalize lvn 5 (hiF 8 f) = H0 at *; generalize lvn 4 (hiF 7 x1) = H1 at *; generalize lvn 3 (hiF 6 x2) = H2 at *; generalize lvn 2 (hiF 5 x3) = H3 at *
    generalize lvn 8 f = X at *; generalize lvn 7 x1 = X1 at *; generalize lvn 6 x2 = X2 at *; generalize lvn 5 x3 = X3 at *
    have z : H3 = 0 := by omega
    have : X = L0 + L2 - (L1 + L3) + 7237005577332262213973186563042994240857116359379907606001950938285454250989 * (H0 - H1 + H2) := by omega
    rw [this, Int.add_mul_emod_self_left]
  rw [e] at r
  exact r
theorem red4_v {o f h0 : Nat → Int} (hf : ∀ j, j < 4 → U1 (f j)) (ho : eqN 4 o ordF = true) :
    (u4O o && u4O o) = true ∧ (u4O (sh 0 (redS f (nx 4 f h0) Z0 Z0 4 3 2 2)) && u4O (plusO o o)) = true ∧ (u4O (redM o (redS f (nx 4 f h0) Z0 Z0 4 3 2 2)) && eqN 4 o ordF) = true ∧
    (V.ints .u64 4 (belO o (redM o (redS f (nx 4 f h0) Z0 Z0 4 3 2 2)))).den z0 = (V.ints .u64 4 (wF (lvn 4 f % LL))).den z0 := by
  obtain ⟨v1, e1⟩ := nx_v h0 hf
  generalize nx 4 f h0 = x1 at *
  have vz : ∀ j, U1 (Z0 j) := fun j => ⟨by show (0 : Int) ≤ 0; decide, by show (0 : Int) < _; decide⟩
  obtain ⟨-, -, -, -, a1, a2, a3, a4⟩ := fold_all (n0 := 4) (n1 := 3) (n2 := 2) (n3 := 2) hf (fun j _ => v1 j) (fun j _ => vz j) (fun j _ => vz j)
  have s0 := split_v4 hf
  have s1 := split_v3 (x := x1)
  have s2 := split_v2 (x := Z0)
  have z2 : lvn 2 Z0 = 0 := by decide
  have l0 := low_v hf
  have l1 := low_v (n := 3) (x := x1) (fun j _ => v1 j)
  have b0 := lvn_nn hf
  have q0 := (lvn_nn (n := 1) (f := hiF 4 f) (fun j hj => hi_U hf j (by omega))).1
  simp only [Int.reducePow] at b0
  have r := redM_v ho a1 a2 a3 a4 (by omega) (by omega)
  have e : (lv4 (lowF 4 f) + lv4 (lowF 2 Z0) - (lv4 (lowF 3 x1) + lv4 (lowF 2 Z0))) % LL = lvn 4 f % LL := by
    simp only [Nat.reduceSub, Nat.reduceAdd] at e1
    unfold LL
    have : lvn 4 f = lv4 (lowF 4 f) + lv4 (lowF 2 Z0) - (lv4 (lowF 3 x1) + lv4 (lowF 2 Z0)) + 7237005577332262213973186563042994240857116359379907606001950938285454250989 * lvn 1 (hiF 4 f) := by omega
    rw [this, Int.add_mul_emod_self_left]
  rw [e] at r
  exact r
end Go.Proofs.YtnoehjibponofaaDoor
