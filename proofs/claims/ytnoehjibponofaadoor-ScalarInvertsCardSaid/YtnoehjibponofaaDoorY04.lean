/-
  A part of the groundwork of this seat's claims: an evaluator over the program, walks, and plain mathematics. Conditions: none.
-/
import Derived.Test.YtnoehjibponofaaDoorY03
import Derived.Test.YtnoehjibponofaaDoorFvL
import Derived.Test.YtnoehjibponofaaDoorFvJ
import Derived.LaidMore
import Derived.LaidLaws
import Derived.ChangeBears2
/-
  reduce: what it comes to, as a number. Conditions: none.
-/
namespace Go.Proofs.YtnoehjibponofaaDoor
open Go.Ev
/-- The order L. -/
def LL : Int := 7237005577332262213973186563042994240857116359379907606001950938285454250989
/-- The words of a number. -/
def wF (n : Int) : Nat → Int := fun j => n / 18446744073709551616 ^ j % 18446744073709551616
theorem words_at {a : Nat → Int} (ha : u4 a = true) : ∀ j, j < 4 → a j = wF (lv4 a) j := by
  have A := u4_at ha
  have a0 := A 0 (by omega); have a1 := A 1 (by omega); have a2 := A 2 (by omega); have a3 := A 3 (by omega)
  intro j hj
  have : j = 0 ∨ j = 1 ∨ j = 2 ∨ j = 3 := by omega
  unfold wF lv4
  clear A ha
  rcases this with rfl | rfl | rfl | rfl <;> simp only [Int.reducePow] <;> omega
theorem ints_eq {k : IntKind} {n : Nat} {f g : Nat → Int} (h : ∀ j, j < n → f j = g j) : (V.ints k n f).den z0 = (V.ints k n g).den z0 := by
  simp only [V.den]
  congr 2
  apply List.map_congr_left
  intro j hj
  rw [h j (List.mem_range.1 hj)]
theorem words_eq {a : Nat → Int} (ha : u4 a = true) : (V.ints .u64 4 a).den z0 = (V.ints .u64 4 (wF (lv4 a))).den z0 := ints_eq (words_at ha)
theorem wF_u4 (n : Int) : u4 (wF n) = true := u4_mk fun j _ => ⟨by unfold wF; omega, by unfold wF; omega⟩
theorem wF_v {n : Int} (h0 : 0 ≤ n) (h : n < 115792089237316195423570985008687907853269984665640564039457584007913129639936) : lv4 (wF n) = n := by
  unfold lv4 wF
  simp only [Int.reducePow]
  omega
theorem lv4_congr {a b : Nat → Int} (h : ∀ j, j < 4 → a j = b j) : lv4 a = lv4 b := by
  unfold lv4
  rw [h 0 (by omega), h 1 (by omega), h 2 (by omega), h 3 (by omega)]
theorem u4_congr {a b : Nat → Int} (h : ∀ j, j < 4 → a j = b j) : u4 a = u4 b := by
  unfold u4
  rw [h 0 (by omega), h 1 (by omega), h 2 (by omega), h 3 (by omega)]
theorem plus_small {x y : Nat → Int} (hx : u4 x = true) (hy : u4 y = true) (h : lv4 x + lv4 y < 115792089237316195423570985008687907853269984665640564039457584007913129639936) : lv4 (plusF x y) = lv4 x + lv4 y ∧ u4 (plusF x y) = true := by
  obtain ⟨h1, h2⟩ := plus_v hx hy
  have h3 := lv4_nn h2
  have h4 := pc_nn x y 4
  exact ⟨by omega, h2⟩
theorem fold0 {S x : Nat → Int} {n : Nat} (h0 : u4 (sh 0 S) = true) (h4 : u4 (sh 4 S) = true) (hl : u4 (lowF n x) = true) (h : lv4 (sh 0 S) + lv4 (lowF n x) < 115792089237316195423570985008687907853269984665640564039457584007913129639936) :
    u4 (sh 0 (fold S 0 n x)) = true ∧ u4 (sh 4 (fold S 0 n x)) = true ∧ lv4 (sh 0 (fold S 0 n x)) = lv4 (sh 0 S) + lv4 (lowF n x) ∧ lv4 (sh 4 (fold S 0 n x)) = lv4 (sh 4 S) := by
  obtain ⟨p1, p2⟩ := plus_small h0 hl h
  have e0 : ∀ j, j < 4 → sh 0 (fold S 0 n x) j = plusF (sh 0 S) (lowF n x) j := by
    intro j hj
    unfold fold
    rw [plusO_eq, sh_at, spl_at _ _ _ _ _ _ (by omega), if_pos (by omega)]
    rw [show 0 + j - 0 = j by omega]
  have e4 : ∀ j, j < 4 → sh 4 (fold S 0 n x) j = sh 4 S j := by
    intro j hj
    unfold fold
    rw [sh_at, spl_at _ _ _ _ _ _ (by omega), if_neg (by omega), sh_at]
  rw [u4_congr e0, u4_congr e4, lv4_congr e0, lv4_congr e4]
  exact ⟨p2, h4, p1, rfl⟩
theorem fold4 {S x : Nat → Int} {n : Nat} (h0 : u4 (sh 0 S) = true) (h4 : u4 (sh 4 S) = true) (hl : u4 (lowF n x) = true) (h : lv4 (sh 4 S) + lv4 (lowF n x) < 115792089237316195423570985008687907853269984665640564039457584007913129639936) :
    u4 (sh 0 (fold S 4 n x)) = true ∧ u4 (sh 4 (fold S 4 n x)) = true ∧ lv4 (sh 0 (fold S 4 n x)) = lv4 (sh 0 S) ∧ lv4 (sh 4 (fold S 4 n x)) = lv4 (sh 4 S) + lv4 (lowF n x) := by
  obtain ⟨p1, p2⟩ := plus_small h4 hl h
  have e0 : ∀ j, j < 4 → sh 0 (fold S 4 n x) j = sh 0 S j := by
    intro j hj
    unfold fold
    rw [sh_at, spl_at _ _ _ _ _ _ (by omega), if_neg (by omega), sh_at]
  have e4 : ∀ j, j < 4 → sh 4 (fold S 4 n x) j = plusF (sh 4 S) (lowF n x) j := by
    intro j hj
    unfold fold
    rw [plusO_eq, sh_at, spl_at _ _ _ _ _ _ (by omega), if_pos (by omega)]
    rw [show 4 + j - 4 = j by omega]
  rw [u4_congr e0, u4_congr e4, lv4_congr e0, lv4_congr e4]
  exact ⟨h0, p2, rfl, p1⟩
theorem Z0_u : u4 (sh 0 Z0) = true ∧ u4 (sh 4 Z0) = true ∧ lv4 (sh 0 Z0) = 0 ∧ lv4 (sh 4 Z0) = 0 := ⟨by decide, by decide, by decide, by decide⟩
theorem u4O_t {a : Nat → Int} (h : u4 a = true) : u4O a = true := by rw [u4O_eq]; exact h
theorem both {a b : Bool} (ha : a = true) (hb : b = true) : (a && b) = true := by rw [ha, hb]; rfl
/-- The four folds. -/
theorem fold_all {f x1 x2 x3 : Nat → Int} {n0 n1 n2 n3 : Nat} (h0 : ∀ j, j < n0 → U1 (f j)) (h1 : ∀ j, j < n1 → U1 (x1 j)) (h2 : ∀ j, j < n2 → U1 (x2 j)) (h3 : ∀ j, j < n3 → U1 (x3 j)) :
    (u4O (sh 0 Z0) && u4O (lowF n0 f)) = true ∧ (u4O (sh 4 (fold Z0 0 n0 f)) && u4O (lowF n1 x1)) = true ∧ (u4O (sh 0 (fold (fold Z0 0 n0 f) 4 n1 x1)) && u4O (lowF n2 x2)) = true ∧
    (u4O (sh 4 (fold (fold (fold Z0 0 n0 f) 4 n1 x1) 0 n2 x2)) && u4O (lowF n3 x3)) = true ∧ u4 (sh 0 (redS f x1 x2 x3 n0 n1 n2 n3)) = true ∧ u4 (sh 4 (redS f x1 x2 x3 n0 n1 n2 n3)) = true ∧
    lv4 (sh 0 (redS f x1 x2 x3 n0 n1 n2 n3)) = lv4 (lowF n0 f) + lv4 (lowF n2 x2) ∧ lv4 (sh 4 (redS f x1 x2 x3 n0 n1 n2 n3)) = lv4 (lowF n1 x1) + lv4 (lowF n3 x3) := by
  obtain ⟨u0, b0, c0⟩ := low_v h0; obtain ⟨u1, b1, c1⟩ := low_v h1; obtain ⟨u2, b2, c2⟩ := low_v h2; obtain ⟨u3, b3, c3⟩ := low_v h3
  obtain ⟨z0, z4, y0, y4⟩ := Z0_u
  unfold redS
  obtain ⟨p1, p2, p3, p4⟩ := fold0 (S := Z0) (x := f) (n := n0) z0 z4 u0 (by omega)
  have g0 := both (u4O_t z0) (u4O_t u0)
  generalize fold Z0 0 n0 f = S0 at *
  obtain ⟨q1, q2, q3, q4⟩ := fold4 (S := S0) (x := x1) (n := n1) p1 p2 u1 (by omega)
  have g1 := both (u4O_t p2) (u4O_t u1)
  generalize fold S0 4 n1 x1 = S1 at *
  obtain ⟨r1, r2, r3, r4⟩ := fold0 (S := S1) (x := x2) (n := n2) q1 q2 u2 (by omega)
  have g2 := both (u4O_t q1) (u4O_t u2)
  generalize fold S1 0 n2 x2 = S2 at *
  obtain ⟨t1, t2, t3, t4⟩ := fold4 (S := S2) (x := x3) (n := n3) r1 r2 u3 (by omega)
  have g3 := both (u4O_t r2) (u4O_t u3)
  exact ⟨g0, g1, g2, g3, t1, t2, by omega, by omega⟩
/-- What is behind the folds. -/
theorem redM_v {o S : Nat → Int} {a b : Int} (ho : eqN 4 o ordF = true) (h0 : u4 (sh 0 S) = true) (h4 : u4 (sh 4 S) = true) (ha : lv4 (sh 0 S) = a) (hb : lv4 (sh 4 S) = b) (ha1 : a < 14474011154664524427946373126085988481658748083205070504932198000989141204992) (hb1 : b < 14474011154664524427946373126085988481658748083205070504932198000989141204992) :
    (u4O o && u4O o) = true ∧ (u4O (sh 0 S) && u4O (plusO o o)) = true ∧ (u4O (redM o S) && eqN 4 o ordF) = true ∧ (V.ints .u64 4 (belO o (redM o S))).den z0 = (V.ints .u64 4 (wF ((a - b) % LL))).den z0 := by
  obtain ⟨o1, o2⟩ := eq_ord ho
  obtain ⟨p1, p2⟩ := plus_small o1 o1 (by omega)
  have n0 := lv4_nn h0; have n4 := lv4_nn h4
  obtain ⟨q1, q2⟩ := plus_small h0 p2 (by omega)
  have m0 := minus_ge q2 h4 (by omega)
  have m1 := (minus_v q2 h4).2
  have e : redM o S = minusF (plusF (sh 0 S) (plusF o o)) (sh 4 S) := by unfold redM; rw [minusO_eq, plusO_eq]
  have f := fin_ok m1 ho
  rw [e, belO_eq, plusO_eq]
  refine ⟨both (u4O_t o1) (u4O_t o1), both (u4O_t h0) (u4O_t p2), both (u4O_t m1) ho, ?_⟩
  rw [words_eq f.1, f.2.1, m0.1]
  have : (lv4 (plusF (sh 0 S) (plusF o o)) - lv4 (sh 4 S)) % 7237005577332262213973186563042994240857116359379907606001950938285454250989 = (a - b) % LL := by
    rw [q1, p1, o2, ha, hb]
    unfold LL
    omega
  rw [this]
theorem rest_U : ∀ j, j < 2 → U1 (restF j) := by
  intro j hj
  have : j = 0 ∨ j = 1 := by omega
  rcases this with rfl | rfl <;> exact ⟨by decide, by decide⟩
theorem rest_v : lvn 2 restF = 27742317777372353535851937790883648493 := by decide
theorem nx_eq (n : Nat) (x h : Nat → Int) : nx n x h = timesR (hiF n x) restF 2 (n - 3) := by
  unfold nx
  refine times_congr fun j hj => ?_
  rw [apx_at, if_pos hj]
/-- A fold as a number: the words above, times what 2^252 is less L. -/
theorem nx_v {n : Nat} {x : Nat → Int} (h : Nat → Int) (hx : ∀ j, j < n → U1 (x j)) : (∀ j, U1 (nx n x h j)) ∧ lvn (n - 3 + 2) (nx n x h) = lvn (n - 3) (hiF n x) * 27742317777372353535851937790883648493 := by
  have := times_v (n := 2) rest_U (n - 3) (f := hiF n x) (fun j hj => hi_U hx j (by omega))
  rw [nx_eq, ← rest_v]
  exact this
theorem lvn_nn {f : Nat → Int} : ∀ {n : Nat}, (∀ j, j < n → U1 (f j)) → 0 ≤ lvn n f ∧ lvn n f < 18446744073709551616 ^ n
  | 0, _ => ⟨by simp [lvn], by simp [lvn]⟩
  | n + 1, h => by
    obtain ⟨h1, h2⟩ := lvn_nn (n := n) (fun j hj => h j (by omega))
    obtain ⟨a, b⟩ := h n (by omega)
    have hp : (0 : Int) < 18446744073709551616 ^ n := Int.pow_pos (by omega)
    have hm : 0 ≤ f n * 18446744073709551616 ^ n := Int.mul_nonneg a (by omega)
    have hm2 : f n * 18446744073709551616 ^ n ≤ 18446744073709551615 * 18446744073709551616 ^ n := Int.mul_le_mul_of_nonneg_right (by omega) (by omega)
    rw [lvn, Int.pow_succ]
    omega
theorem red8_v {o f h0 h1 h2 : Nat → Int} (hf : ∀ j, j < 8 → U1 (f j)) (ho : eqN 4 o ordF = true) :
    (u4O o && u4O o) = true ∧ (u4O (sh 0 (redS f (nx 8 f h0) (nx 7 (nx 8 f h0) h1) (nx 6 (nx 7 (nx 8 f h0) h1) h2) 8 7 6 5)) && u4O (plusO o o)) = true ∧ (u4O (redM o (redS f (nx 8 f h0) (nx 7 (nx 8 f h0) h1) (nx 6 (nx 7 (nx 8 f h0) h1) h2) 8 7 6 5)) && eqN 4 o ordF) = true ∧
    (V.ints .u64 4 (belO o (redM o (redS f (nx 8 f h0) (nx 7 (nx 8 f h0) h1) (nx 6 (nx 7 (nx 8 f h0) h1) h2) 8 7 6 5)))).den z0 = (V.ints .u64 4 (wF (lvn 8 f % LL))).den z0 := by
  obtain ⟨v1, e1⟩ := nx_v h0 hf
  generalize nx 8 f h0 = x1 at *
  obtain ⟨v2, e2⟩ := nx_v (n := 7) (x := x1) h1 (fun j _ => v1 j)
  generalize nx 7 x1 h1 = x2 at *
  obtain ⟨v3, e3⟩ := nx_v (n := 6) (x := x2) h2 (fun j _ => v2 j)
  generalize nx 6 x2 h2 = x3 at *
  obtain ⟨-, -, -, -, a1, a2, a3, a4⟩ := fold_all (n0 := 8) (n1 := 7) (n2 := 6) (n3 := 5) hf (fun j _ => v1 j) (fun j _ => v2 j) (fun j _ => v3 j)
  have s0 := split_v8 hf
  have s1 := split_v7 (x := x1) (fun j _ => v1 j)
  have s2 := split_v6 (x := x2) (fun j _ => v2 j)
  have s3 := split_v5 (x := x3) (fun j _ => v3 j)
  have l0 := low_v hf
  have l1 := low_v (n := 7) (x := x1) (fun j _ => v1 j)
  have l2 := low_v (n := 6) (x := x2) (fun j _ => v2 j)
  have l3 := low_v (n := 5) (x := x3) (fun j _ => v3 j)
  have b0 := lvn_nn hf
  have p0 := lvn_nn (n := 5) (f := hiF 8 f) (fun j hj => hi_U hf j (by omega))
  have p1 := lvn_nn (n := 4) (f := hiF 7 x1) (fun j hj => hi_U (fun j _ => v1 j) j (by omega))
  have p2 := lvn_nn (n := 3) (f := hiF 6 x2) (fun j hj => hi_U (fun j _ => v2 j) j (by omega))
  have p3 := lvn_nn (n := 2) (f := hiF 5 x3) (fun j hj => hi_U (fun j _ => v3 j) j (by omega))
  simp only [Int.reducePow] at b0
  have r := redM_v ho a1 a2 a3 a4 (by omega) (by omega)
  have e : (lv4 (lowF 8 f) + lv4 (lowF 6 x2) - (lv4 (lowF 7 x1) + lv4 (lowF 5 x3))) % LL = lvn 8 f % LL := by
    simp only [Nat.reduceSub, Nat.reduceAdd] at e1 e2 e3
    unfold LL
    have q0 := p0.1; have q1 := p1.1; have q2 := p2.1; have q3 := p3.1
    clear p0 p1 p2 p3 r a1 a2 a3 a4
    obtain ⟨-, l0, l0'⟩ := l0; obtain ⟨-, l1, l1'⟩ := l1; obtain ⟨-, l2, l2'⟩ := l2; obtain ⟨-, l3, l3'⟩ := l3
    generalize lv4 (lowF 8 f) = L0 at *; generalize lv4 (lowF 7 x1) = L1 at *; generalize lv4 (lowF 6 x2) = L2 at *; generalize lv4 (lowF 5 x3) = L3 at *
    generalize lvn 5 (hiF 8 f) = H0 at *; generalize lvn 4 (hiF 7 x1) = H1 at *; generalize lvn 3 (hiF 6 x2) = H2 at *; generalize lvn 2 (hiF 5 x3) = H3 at *
    generalize lvn 8 f = X at *; generalize lvn 7 x1 = X1 at *; generalize lvn 6 x2 = X2 at *; generalize lvn 5 x3 = X3 at *
    have z : H3 = 0 := by omega
    have : X = L0 + L2 - (L1 + L3) + 7237005577332262213973186563042994240857116359379907606001950938285454250989 * (H0 - H1 + H2) := by omega
    rw [this, Int.add_mul_emod_self_left]
  rw [e] at r
  exact r
theorem red4_v {o f h0 : Nat → Int} (hf : ∀ j, j < 4 → U1 (f j)) (ho : eqN 4 o ordF = true) :
    (u4O o && u4O o) = true ∧ (u4O (sh 0 (redS f (nx 4 f h0) Z0 Z0 4 3 2 2)) && u4O (plusO o o)) = true ∧ (u4O (redM o (redS f (nx 4 f h0) Z0 Z0 4 3 2 2)) && eqN 4 o ordF) = true ∧
    (V.ints .u64 4 (belO o (redM o (redS f (nx 4 f h0) Z0 Z0 4 3 2 2)))).den z0 = (V.ints .u64 4 (wF (lvn 4 f % LL))).den z0 := by
  obtain ⟨v1, e1⟩ := nx_v h0 hf
  generalize nx 4 f h0 = x1 at *
  have vz : ∀ j, U1 (Z0 j) := fun j => ⟨by show (0 : Int) ≤ 0; decide, by show (0 : Int) < _; decide⟩
  obtain ⟨-, -, -, -, a1, a2, a3, a4⟩ := fold_all (n0 := 4) (n1 := 3) (n2 := 2) (n3 := 2) hf (fun j _ => v1 j) (fun j _ => vz j) (fun j _ => vz j)
  have s0 := split_v4 hf
  have s1 := split_v3 (x := x1)
  have s2 := split_v2 (x := Z0)
  have z2 : lvn 2 Z0 = 0 := by decide
  have l0 := low_v hf
  have l1 := low_v (n := 3) (x := x1) (fun j _ => v1 j)
  have b0 := lvn_nn hf
  have q0 := (lvn_nn (n := 1) (f := hiF 4 f) (fun j hj => hi_U hf j (by omega))).1
  simp only [Int.reducePow] at b0
  have r := redM_v ho a1 a2 a3 a4 (by omega) (by omega)
  have e : (lv4 (lowF 4 f) + lv4 (lowF 2 Z0) - (lv4 (lowF 3 x1) + lv4 (lowF 2 Z0))) % LL = lvn 4 f % LL := by
    simp only [Nat.reduceSub, Nat.reduceAdd] at e1
    unfold LL
    have : lvn 4 f = lv4 (lowF 4 f) + lv4 (lowF 2 Z0) - (lv4 (lowF 3 x1) + lv4 (lowF 2 Z0)) + 7237005577332262213973186563042994240857116359379907606001950938285454250989 * lvn 1 (hiF 4 f) := by omega
    rw [this, Int.add_mul_emod_self_left]
  rw [e] at r
  exact r
end Go.Proofs.YtnoehjibponofaaDoor

/-
  reduce, mod: contracts. Conditions: none.
-/
namespace Go.Proofs.YtnoehjibponofaaDoor
open Go.Ev
def uN : Nat → (Nat → Int) → Bool
  | 0, _ => true
  | n + 1, f => uN n f && u1 (f n)
theorem uN_at {f : Nat → Int} : ∀ {n : Nat}, uN n f = true → ∀ j, j < n → U1 (f j)
  | 0, _, j, hj => by omega
  | n + 1, h, j, hj => by
    simp only [uN, Bool.and_eq_true] at h
    by_cases e : j = n
    · subst e; simpa [u1, U1] using h.2
    · exact uN_at h.1 j (by omega)
theorem uN_mk {f : Nat → Int} : ∀ {n : Nat}, (∀ j, j < n → U1 (f j)) → uN n f = true
  | 0, _ => rfl
  | n + 1, h => by
    simp only [uN, Bool.and_eq_true]
    exact ⟨uN_mk fun j hj => h j (by omega), by simpa [u1, U1] using h n (by omega)⟩
noncomputable def uNO : Nat → (Nat → Int) → Bool := Classical.choose (hide_ex uN)
theorem uNO_eq : uNO = uN := Classical.choose_spec (hide_ex uN)
noncomputable def redO : Nat → (Nat → Int) → Nat → Int := Classical.choose (hide_ex fun n f => wF (lvn n f % LL))
theorem redO_eq : redO = fun n f => wF (lvn n f % LL) := Classical.choose_spec (hide_ex fun n f => wF (lvn n f % LL))
theorem red8_a {e c : Nat} {o f : Nat → Int} (hf : uNO 8 f = true) (ho : eqN 4 o ordF = true) : awp Tryd.prog q52 G47 300 (body Tryd.f40) (ends Tryd.prog Tryd.f40 fun v _ => okV (V.ints .u64 4 (redO 8 f)) v) ⟨[V.sl 1 0 8 c] ++ List.replicate 55 V.un, [V.tup [V.fn 2, V.ints .u64 4 o], V.tup [V.ints .u64 (e + 8) f]]⟩ := by
  rw [uNO_eq] at hf
  have hf := uN_at hf
  rw [red8_t]
  intro e0 h0
  have v1 := (nx_v h0 hf).1
  refine gm (fold_all (x1 := Z0) (x2 := Z0) (x3 := Z0) (n1 := 0) (n2 := 0) (n3 := 0) hf (by omega) (by omega) (by omega)).1 fun e1 h1 => ?_
  have v2 := (nx_v (n := 7) (x := nx 8 f h0) h1 (fun j _ => v1 j)).1
  refine gm (fold_all (x2 := Z0) (x3 := Z0) (n1 := 7) (n2 := 0) (n3 := 0) hf (fun j _ => v1 j) (by omega) (by omega)).2.1 fun e2 h2 => ?_
  have v3 := (nx_v (n := 6) (x := nx 7 (nx 8 f h0) h1) h2 (fun j _ => v2 j)).1
  refine gm (fold_all (x3 := Z0) (n1 := 7) (n2 := 6) (n3 := 0) hf (fun j _ => v1 j) (fun j _ => v2 j) (by omega)).2.2.1 fun e3 h3 => ?_
  refine gm (fold_all (n1 := 7) (n2 := 6) (n3 := 5) hf (fun j _ => v1 j) (fun j _ => v2 j) (fun j _ => v3 j)).2.2.2.1 ?_
  obtain ⟨r1, r2, r3, r4⟩ := red8_v (h0 := h0) (h1 := h1) (h2 := h2) hf ho
  refine gm r1 (gm r2 (gm r3 ?_))
  rw [redO_eq]
  unfold redS at r4
  exact r4
theorem red4_a {e c : Nat} {o f : Nat → Int} (hf : uNO 4 f = true) (ho : eqN 4 o ordF = true) : awp Tryd.prog q52 G47 300 (body Tryd.f40) (ends Tryd.prog Tryd.f40 fun v _ => okV (V.ints .u64 4 (redO 4 f)) v) ⟨[V.sl 1 0 4 c] ++ List.replicate 55 V.un, [V.tup [V.fn 2, V.ints .u64 4 o], V.tup [V.ints .u64 (e + 4) f]]⟩ := by
  rw [uNO_eq] at hf
  have hf := uN_at hf
  rw [red4_t]
  intro e0 h0
  have v1 := (nx_v h0 hf).1
  have vz : ∀ j, U1 (Z0 j) := fun j => ⟨by show (0 : Int) ≤ 0; decide, by show (0 : Int) < _; decide⟩
  obtain ⟨g0, g1, g2, g3, -⟩ := fold_all (n0 := 4) (n1 := 3) (n2 := 2) (n3 := 2) hf (fun j _ => v1 j) (fun j _ => vz j) (fun j _ => vz j)
  refine gm g0 (gm g1 (gm g2 (gm g3 ?_)))
  obtain ⟨r1, r2, r3, r4⟩ := red4_v (h0 := h0) hf ho
  refine gm r1 (gm r2 (gm r3 ?_))
  rw [redO_eq]
  unfold redS at r4
  exact r4
noncomputable def g40 : List V → List V → Option (Bool × V) := fun vs m => match views [2] vs m with
  | some ([.sl 1 0 8 _], [.tup [.fn 2, .ints .u64 4 o], .tup [.ints .u64 N f]]) => some (Nat.ble 8 N && (uNO 8 f && eqN 4 o ordF), .ints .u64 4 (redO 8 f))
  | some ([.sl 1 0 4 _], [.tup [.fn 2, .ints .u64 4 o], .tup [.ints .u64 N f]]) => some (Nat.ble 4 N && (uNO 4 f && eqN 4 o ordF), .ints .u64 4 (redO 4 f))
  | _ => none
theorem g40_ok (vs m : List V) (v : V) (h : g40 vs m = some (true, v)) : v.flat = true ∧ ∀ μ B w0 w, Under B w0 → Rel μ B w0 m w → PureAt Tryd.prog 40 (vs.map (V.den μ)).toArray (v.den μ) w := by
  unfold g40 at h
  split at h
  · rename_i c o N f hv
    simp only [Option.some.injEq, Prod.mk.injEq, Bool.and_eq_true] at h
    obtain ⟨⟨h1, h2, h3⟩, rfl⟩ := h
    have h1 := bleT.1 h1
    obtain ⟨e, rfl⟩ : ∃ e, N = e + 8 := ⟨N - 8, by omega⟩
    exact ⟨rfl, reads_ok (fn := Tryd.f40) (N := 300) (n := 55) hM q52_ok G47_ok Tryd.func40 (by kernel_rfl) (by kernel_rfl) hv rfl (red8_a h2 h3) (by kernel_rfl)⟩
  · rename_i c o N f hv
    simp only [Option.some.injEq, Prod.mk.injEq, Bool.and_eq_true] at h
    obtain ⟨⟨h1, h2, h3⟩, rfl⟩ := h
    have h1 := bleT.1 h1
    obtain ⟨e, rfl⟩ : ∃ e, N = e + 4 := ⟨N - 4, by omega⟩
    exact ⟨rfl, reads_ok (fn := Tryd.f40) (N := 300) (n := 55) hM q52_ok G47_ok Tryd.func40 (by kernel_rfl) (by kernel_rfl) hv rfl (red4_a h2 h3) (by kernel_rfl)⟩
  · cases h
theorem g40_grow (vs m : List V) (z : V) (r : Bool × V) (h : g40 vs m = some r) : g40 vs (m ++ [z]) = some r := by
  unfold g40 at h ⊢
  cases hv : views [2] vs m with
  | none => rw [hv] at h; cases h
  | some p => rw [hv] at h; rw [views_grow hv]; exact h
noncomputable def p40 : Orc := extM 40 g40 q52
theorem p40_ok : OrcOK Tryd.prog p40 := extM_ok q52_ok g40_ok g40_grow
/- load, store by names that are not unfolded -/
noncomputable def loadO : (Nat → Int) → Nat → Int := Classical.choose (hide_ex loadF)
theorem loadO_eq : loadO = loadF := Classical.choose_spec (hide_ex loadF)
noncomputable def storeO : (Nat → Int) → Nat → Int := Classical.choose (hide_ex storeF)
theorem storeO_eq : storeO = storeF := Classical.choose_spec (hide_ex storeF)
noncomputable def g44O : List V → Option (Bool × V) := fun | [.ints .u8 32 f] => some (true, .ints .u64 4 (loadO f)) | _ => none
theorem g44O_eq : g44O = g44 := by
  funext vs
  unfold g44O g44
  simp only [loadO_eq]
  kernel_rfl
noncomputable def g39O : List V → Option (Bool × V) := fun | [.ints .u64 4 x] => some (true, .ints .u8 32 (storeO x)) | _ => none
theorem g39O_eq : g39O = g39 := by
  funext vs
  unfold g39O g39
  simp only [storeO_eq]
  kernel_rfl
noncomputable def q44 : Orc := ext 44 g44O p40
theorem q44_ok : OrcOK Tryd.prog q44 := by unfold q44; rw [g44O_eq]; exact ext_ok p40_ok g44_ok
noncomputable def q39 : Orc := ext 39 g39O q44
theorem q39_ok : OrcOK Tryd.prog q39 := by unfold q39; rw [g39O_eq]; exact ext_ok q44_ok g39_ok
noncomputable def G48 : GOrc := inl Tryd.prog q39 300 48 Tryd.f48 (inl Tryd.prog q39 300 47 Tryd.f47 noG)
theorem G48_ok : GOrcOK Tryd.prog G48 := inl_ok hM q39_ok (inl_ok hM q39_ok (noG_ok _) Tryd.func47 (by kernel_rfl) (by kernel_rfl)) Tryd.func48 (by kernel_rfl) (by kernel_rfl)
theorem orI_U (a b : Int) : U1 (orI .u64 a b) := by
  unfold orI bits2
  rw [wrap_u64]
  exact ⟨by omega, by omega⟩
theorem ldR_U (f : Nat → Int) (a : Nat) : ∀ k, U1 (ldR f a k)
  | 0 => ⟨by show (0 : Int) ≤ 0; decide, by show (0 : Int) < _; decide⟩
  | k + 1 => orI_U _ _
theorem loadO_U (f : Nat → Int) (j : Nat) : U1 (loadO f j) := by rw [loadO_eq]; exact ldR_U _ _ _
theorem uNO_t {n : Nat} {f : Nat → Int} (h : ∀ j, j < n → U1 (f j)) : uNO n f = true := by rw [uNO_eq]; exact uN_mk h
theorem loadO_uN (f : Nat → Int) : uNO 4 (loadO f) = true := uNO_t fun j _ => loadO_U f j
theorem loadO_u4 (f : Nat → Int) : u4 (loadO f) = true := u4_mk fun j _ => loadO_U f j
theorem mod_t (o : Nat → Int) (a : Nat → Int) : awp Tryd.prog q39 G48 300 (body Tryd.f51) (ends Tryd.prog Tryd.f51 fun v _ => okV (V.ints .u64 4 (redO 4 (loadO a))) v) ⟨[V.ints .u8 32 a] ++ List.replicate 5 V.un, [V.tup [V.fn 2, V.ints .u64 4 o]]⟩ = (gB (Nat.ble 4 4 && (uNO 4 (loadO a) && eqN 4 o ordF)) ((V.ints .u64 4 (redO 4 (loadO a))).den z0 = (V.ints .u64 4 (redO 4 (loadO a))).den z0)) := by kernel_rfl
theorem mod_a (o : Nat → Int) (a : Nat → Int) (ho : eqN 4 o ordF = true) : awp Tryd.prog q39 G48 300 (body Tryd.f51) (ends Tryd.prog Tryd.f51 fun v _ => okV (V.ints .u64 4 (redO 4 (loadO a))) v) ⟨[V.ints .u8 32 a] ++ List.replicate 5 V.un, [V.tup [V.fn 2, V.ints .u64 4 o]]⟩ := by
  rw [mod_t]
  exact (gm (both rfl (both (loadO_uN a) ho)) (rfl))
noncomputable def g51 : List V → List V → Option (Bool × V) := fun vs m => match views [2] vs m with
  | some ([.ints .u8 32 a], [.tup [.fn 2, .ints .u64 4 o]]) => some (eqN 4 o ordF, (V.ints .u64 4 (redO 4 (loadO a))))
  | _ => none
theorem g51_ok (vs m : List V) (v : V) (h : g51 vs m = some (true, v)) : v.flat = true ∧ ∀ μ B w0 w, Under B w0 → Rel μ B w0 m w → PureAt Tryd.prog 51 (vs.map (V.den μ)).toArray (v.den μ) w := by
  unfold g51 at h
  split at h
  · rename_i a o hv
    simp only [Option.some.injEq, Prod.mk.injEq] at h
    obtain ⟨h1, rfl⟩ := h
    refine ⟨rfl, ?_⟩
    exact reads_ok (fn := Tryd.f51) (N := 300) (n := 5) hM q39_ok (G48_ok) Tryd.func51 (by kernel_rfl) (by kernel_rfl) hv rfl (mod_a o a h1) (by kernel_rfl)
  · cases h
theorem g51_grow (vs m : List V) (z : V) (r : Bool × V) (h : g51 vs m = some r) : g51 vs (m ++ [z]) = some r := by
  unfold g51 at h ⊢
  cases hv : views [2] vs m with
  | none => rw [hv] at h; cases h
  | some p => rw [hv] at h; rw [views_grow hv]; exact h
noncomputable def p51 : Orc := extM 51 g51 q39
theorem p51_ok : OrcOK Tryd.prog p51 := extM_ok q39_ok g51_ok g51_grow
end Go.Proofs.YtnoehjibponofaaDoor

/-
  Scalars as numbers: what is loaded, what is stored. Conditions: none.
-/
namespace Go.Proofs.YtnoehjibponofaaDoor
open Go.Ev
/-- The bytes of a number. -/
def stF (n : Int) : Nat → Int := fun j => n / 256 ^ j % 256
/-- The number of 32 bytes. -/
noncomputable def num (a : Nat → Int) : Int := lvn 4 (loadO a)
theorem lvn4 (f : Nat → Int) : lvn 4 f = lv4 f := by
  simp only [lvn, lv4, Int.reducePow]; omega
theorem num_nn (a : Nat → Int) : 0 ≤ num a ∧ num a < 115792089237316195423570985008687907853269984665640564039457584007913129639936 := by
  have := lvn_nn (n := 4) (f := loadO a) (fun j _ => loadO_U a j)
  simp only [Int.reducePow] at this
  exact this
theorem wrap_u8 (a : Int) : IntKind.wrap .u8 a = a % 256 := by simp [IntKind.wrap, IntKind.bits, IntKind.signed]
theorem shr8 (a : Int) : shrI .u64 a 8 = a / 256 := shrU a 8 (by omega)
theorem stB_v (x : Int) : ∀ k, stB x k = x / 256 ^ k % 256 := by
  intro k
  have : ∀ k, stR x k = x / 256 ^ k := by
    intro k
    induction k with
    | zero => simp [stR]
    | succ k ih =>
      rw [stR, ih, shr8, Int.ediv_ediv_of_nonneg (Int.le_of_lt (Int.pow_pos (by omega))), Int.pow_succ]
  unfold stB
  rw [this, wrap_u8]
theorem byte_of (n : Int) (q r : Nat) (hr : r < 8) : n / 18446744073709551616 ^ q % 18446744073709551616 / 256 ^ r % 256 = n / 256 ^ (8 * q + r) % 256 := by
  have e : (256 : Int) ^ (8 * q + r) = 18446744073709551616 ^ q * 256 ^ r := by
    rw [Int.pow_add, Int.pow_mul]; rfl
  rw [e, ← Int.ediv_ediv_of_nonneg (Int.le_of_lt (Int.pow_pos (by omega)))]
  generalize n / 18446744073709551616 ^ q = x
  have : r = 0 ∨ r = 1 ∨ r = 2 ∨ r = 3 ∨ r = 4 ∨ r = 5 ∨ r = 6 ∨ r = 7 := by omega
  rcases this with rfl | rfl | rfl | rfl | rfl | rfl | rfl | rfl <;> simp only [Int.reducePow] <;> omega
theorem store_eq {x : Nat → Int} {n : Int} (h : ∀ j, j < 4 → x j = wF n j) : (V.ints .u8 32 (storeO x)).den z0 = (V.ints .u8 32 (stF n)).den z0 := by
  rw [storeO_eq]
  refine ints_eq fun j hj => ?_
  unfold storeF
  rw [stB_v, h (j / 8) (by omega)]
  unfold wF stF
  rw [byte_of n (j / 8) (j % 8) (by omega)]
  congr 3
  omega
theorem bel_n {o x : Nat → Int} (hx : u4 x = true) (ho : eqN 4 o ordF = true) : ∀ j, j < 4 → belO o x j = wF (lv4 x % LL) j := by
  obtain ⟨h1, h2, _⟩ := fin_ok hx ho
  rw [belO_eq]
  have h := words_at h1
  rw [h2] at h
  exact h
theorem red_n {n : Nat} {f : Nat → Int} : ∀ j, j < 4 → redO n f j = wF (lvn n f % LL) j := by rw [redO_eq]; exact fun _ _ => rfl
theorem LL_pos : 0 < LL := by unfold LL; decide
theorem mod_nn (a : Int) : 0 ≤ a % LL ∧ a % LL < LL := ⟨Int.emod_nonneg _ (by unfold LL; decide), Int.emod_lt_of_pos _ LL_pos⟩
theorem red_u4 (n : Nat) (f : Nat → Int) : u4 (redO n f) = true := by rw [redO_eq]; exact wF_u4 _
theorem red_lv (n : Nat) (f : Nat → Int) : lv4 (redO n f) = lvn n f % LL := by
  have h := mod_nn (lvn n f)
  rw [redO_eq]
  refine wF_v h.1 ?_
  have := h.2
  unfold LL at this ⊢
  omega
/-- What is stored is loaded again. -/
theorem orI_ld (n : Int) (q : Nat) : ∀ k, k ≤ 8 → ldR (stF n) (8 * q) k = n / 18446744073709551616 ^ q % 256 ^ k
  | 0, _ => by simp only [ldR, Int.pow_zero]; omega
  | k + 1, hk => by
    have hp : (0 : Int) < 256 ^ k := Int.pow_pos (by omega)
    have hp1 : (256 : Int) ^ (k + 1) ≤ 18446744073709551616 := by
      have h1 : (256 : Nat) ^ (k + 1) ≤ 256 ^ 8 := Nat.pow_le_pow_right (by omega) hk
      have h2 : (256 : Nat) ^ 8 = 18446744073709551616 := by decide
      have h3 : ((256 ^ (k + 1) : Nat) : Int) = 256 ^ (k + 1) := by simp
      omega
    have e256 : (256 : Int) ^ k = 2 ^ (8 * k) := by rw [Int.pow_mul]; rfl
    have hb : stF n (8 * q + k) = n / 18446744073709551616 ^ q / 256 ^ k % 256 := by
      unfold stF
      have e : (256 : Int) ^ (8 * q + k) = 18446744073709551616 ^ q * 256 ^ k := by
        rw [Int.pow_add, Int.pow_mul]; rfl
      rw [e, ← Int.ediv_ediv_of_nonneg (Int.le_of_lt (Int.pow_pos (by omega)))]
    rw [ldR, orI_ld n q k (by omega), hb]
    generalize n / 18446744073709551616 ^ q = x
    have hw : IntKind.wrap .u64 (x / 256 ^ k % 256) = x / 256 ^ k % 256 := by rw [wrap_u64]; omega
    have hlt : x % 256 ^ k < 256 ^ k := Int.emod_lt_of_pos _ hp
    have hle : x % 256 ^ k + x / 256 ^ k % 256 * 256 ^ k < 18446744073709551616 := by
      have : x / 256 ^ k % 256 * 256 ^ k ≤ 255 * 256 ^ k := Int.mul_le_mul_of_nonneg_right (by omega) (by omega)
      have e : (256 : Int) ^ (k + 1) = 256 ^ k * 256 := Int.pow_succ _ _
      omega
    have hnn : 0 ≤ x % 256 ^ k := Int.emod_nonneg _ (by omega)
    have hnn2 : 0 ≤ x / 256 ^ k % 256 * 256 ^ k := Int.mul_nonneg (by omega) (by omega)
    have hs : shlI .u64 (x / 256 ^ k % 256) ((8 * k : Nat) : Int) = x / 256 ^ k % 256 * 2 ^ (8 * k) := by
      rw [shlU _ (8 * k) (by omega), ← e256, sm _ hnn2 (by omega)]
    rw [hw, hs, or_add _ _ (8 * k) hnn (by rw [← e256]; exact hlt) (by omega) (by rw [← e256]; exact hle), ← e256]
    have e : (256 : Int) ^ (k + 1) = 256 ^ k * 256 := Int.pow_succ _ _
    rw [e]
    have h1 : x / (256 ^ k * 256) = x / 256 ^ k / 256 := (Int.ediv_ediv_of_nonneg (Int.le_of_lt hp)).symm
    have h2 := Int.mul_ediv_add_emod x (256 ^ k)
    have h3 := Int.mul_ediv_add_emod x (256 ^ k * 256)
    have h4 := Int.mul_ediv_add_emod (x / 256 ^ k) 256
    rw [h1] at h3
    generalize (256 : Int) ^ k = p at *
    generalize x / p / 256 = u at *
    generalize x / p = y at *
    generalize y % 256 = z at *
    have e1 : p * 256 * u = 256 * u * p := by rw [Int.mul_assoc, Int.mul_comm]
    have e2 : p * y = 256 * u * p + z * p := by rw [← h4, Int.mul_add, Int.mul_comm p (256 * u), Int.mul_comm p z]
    omega
theorem num_st {n : Int} (h0 : 0 ≤ n) (h1 : n < 115792089237316195423570985008687907853269984665640564039457584007913129639936) : num (stF n) = n := by
  have h : ∀ j, j < 4 → loadO (stF n) j = wF n j := by
    intro j _
    rw [loadO_eq]
    unfold loadF wF
    rw [orI_ld n j 8 (by omega)]
    simp only [Int.reducePow]
  unfold num
  rw [lvn4, lv4_congr h, wF_v h0 h1]
theorem num_mod (n : Int) : num (stF (n % LL)) = n % LL := by
  have h := mod_nn n
  refine num_st h.1 ?_
  have := h.2
  unfold LL at this ⊢
  omega
end Go.Proofs.YtnoehjibponofaaDoor

/-
  The functions of package scalar, as numbers: contracts. Conditions: none.
-/
namespace Go.Proofs.YtnoehjibponofaaDoor
open Go.Ev
noncomputable def addO : (Nat → Int) → (Nat → Int) → Nat → Int := Classical.choose (hide_ex fun a b => stF ((num a + num b) % LL))
theorem addO_eq : addO = fun a b => stF ((num a + num b) % LL) := Classical.choose_spec (hide_ex fun a b => stF ((num a + num b) % LL))
noncomputable def negO : (Nat → Int) → Nat → Int := Classical.choose (hide_ex fun a => stF (-num a % LL))
theorem negO_eq : negO = fun a => stF (-num a % LL) := Classical.choose_spec (hide_ex fun a => stF (-num a % LL))
noncomputable def mulO : (Nat → Int) → (Nat → Int) → Nat → Int := Classical.choose (hide_ex fun a b => stF (num a * num b % LL))
theorem mulO_eq : mulO = fun a b => stF (num a * num b % LL) := Classical.choose_spec (hide_ex fun a b => stF (num a * num b % LL))
noncomputable def wideO : (Nat → Int) → Nat → Int := Classical.choose (hide_ex fun w => fun j => ldR w (8 * j) 8)
theorem wideO_eq : wideO = fun w => fun j => ldR w (8 * j) 8 := Classical.choose_spec (hide_ex fun w => fun j => ldR w (8 * j) 8)
noncomputable def rdcO : (Nat → Int) → Nat → Int := Classical.choose (hide_ex fun w => stF (lvn 8 (wideO w) % LL))
theorem rdcO_eq : rdcO = fun w => stF (lvn 8 (wideO w) % LL) := Classical.choose_spec (hide_ex fun w => stF (lvn 8 (wideO w) % LL))
noncomputable def canO : (Nat → Int) → Bool := Classical.choose (hide_ex fun a => decide (num a < LL))
theorem canO_eq : canO = fun a => decide (num a < LL) := Classical.choose_spec (hide_ex fun a => decide (num a < LL))
theorem red_lt {n m : Nat} {f g : Nat → Int} : lv4 (redO n f) + lv4 (redO m g) < 115792089237316195423570985008687907853269984665640564039457584007913129639936 := by
  rw [red_lv, red_lv]
  have h := (mod_nn (lvn n f)).2; have h2 := (mod_nn (lvn m g)).2
  unfold LL at *
  omega
theorem plus_uO {n m : Nat} {f g : Nat → Int} : u4 (plusO (redO n f) (redO m g)) = true ∧ lv4 (plusO (redO n f) (redO m g)) = lvn n f % LL + lvn m g % LL := by
  rw [plusO_eq]
  obtain ⟨h1, h2⟩ := plus_small (red_u4 n f) (red_u4 m g) red_lt
  exact ⟨h2, by rw [h1, red_lv, red_lv]⟩
theorem add_leaf (a b o : Nat → Int) (ho : eqN 4 o ordF = true) : (V.ints .u8 32 (storeO (belO o (plusO (redO 4 (loadO a)) (redO 4 (loadO b)))))).den z0 = (V.ints .u8 32 (addO a b)).den z0 := by
  obtain ⟨h1, h2⟩ := plus_uO (n := 4) (m := 4) (f := loadO a) (g := loadO b)
  rw [store_eq (bel_n h1 ho), h2, addO_eq]
  have : (lvn 4 (loadO a) % LL + lvn 4 (loadO b) % LL) % LL = (num a + num b) % LL := (Int.add_emod _ _ _).symm
  rw [this]
theorem addS_t (o : Nat → Int) (a b : Nat → Int) : awp Tryd.prog p51 noG 300 (body Tryd.f25) (ends Tryd.prog Tryd.f25 fun v _ => okV (V.ints .u8 32 (addO a b)) v) ⟨[V.ints .u8 32 a, V.ints .u8 32 b] ++ List.replicate 16 V.un, [V.tup [V.fn 2, V.ints .u64 4 o]]⟩ = (gB (eqN 4 o ordF) (gB (eqN 4 o ordF) (gB (u4O (redO 4 (loadO a)) && u4O (redO 4 (loadO b))) (gB (u4O (plusO (redO 4 (loadO a)) (redO 4 (loadO b))) && eqN 4 o ordF) ((V.ints .u8 32 (storeO (belO o (plusO (redO 4 (loadO a)) (redO 4 (loadO b)))))).den z0 = (V.ints .u8 32 (addO a b)).den z0))))) := by kernel_rfl
theorem addS_a (o : Nat → Int) (a b : Nat → Int) (ho : eqN 4 o ordF = true) : awp Tryd.prog p51 noG 300 (body Tryd.f25) (ends Tryd.prog Tryd.f25 fun v _ => okV (V.ints .u8 32 (addO a b)) v) ⟨[V.ints .u8 32 a, V.ints .u8 32 b] ++ List.replicate 16 V.un, [V.tup [V.fn 2, V.ints .u64 4 o]]⟩ := by
  rw [addS_t]
  exact (gm ho (gm ho (gm (both (u4O_t (red_u4 _ _)) (u4O_t (red_u4 _ _))) (gm (both (u4O_t plus_uO.1) ho) (add_leaf a b o ho)))))
noncomputable def g25 : List V → List V → Option (Bool × V) := fun vs m => match views [2] vs m with
  | some ([.ints .u8 32 a, .ints .u8 32 b], [.tup [.fn 2, .ints .u64 4 o]]) => some (eqN 4 o ordF, (V.ints .u8 32 (addO a b)))
  | _ => none
theorem g25_ok (vs m : List V) (v : V) (h : g25 vs m = some (true, v)) : v.flat = true ∧ ∀ μ B w0 w, Under B w0 → Rel μ B w0 m w → PureAt Tryd.prog 25 (vs.map (V.den μ)).toArray (v.den μ) w := by
  unfold g25 at h
  split at h
  · rename_i a b o hv
    simp only [Option.some.injEq, Prod.mk.injEq] at h
    obtain ⟨h1, rfl⟩ := h
    refine ⟨rfl, ?_⟩
    exact reads_ok (fn := Tryd.f25) (N := 300) (n := 16) hM p51_ok (noG_ok _) Tryd.func25 (by kernel_rfl) (by kernel_rfl) hv rfl (addS_a o a b h1) (by kernel_rfl)
  · cases h
theorem g25_grow (vs m : List V) (z : V) (r : Bool × V) (h : g25 vs m = some r) : g25 vs (m ++ [z]) = some r := by
  unfold g25 at h ⊢
  cases hv : views [2] vs m with
  | none => rw [hv] at h; cases h
  | some p => rw [hv] at h; rw [views_grow hv]; exact h
noncomputable def p25 : Orc := extM 25 g25 p51
theorem p25_ok : OrcOK Tryd.prog p25 := extM_ok p51_ok g25_ok g25_grow
theorem neg_u (a : Nat → Int) {o : Nat → Int} (ho : eqN 4 o ordF = true) : u4 (minusO o (redO 4 (loadO a))) = true ∧ lv4 (minusO o (redO 4 (loadO a))) = LL - num a % LL := by
  obtain ⟨o1, o2⟩ := eq_ord ho
  rw [minusO_eq]
  have h := mod_nn (num a)
  have e : lv4 (redO 4 (loadO a)) = num a % LL := red_lv _ _
  refine ⟨(minus_v o1 (red_u4 _ _)).2, ?_⟩
  rw [(minus_ge o1 (red_u4 _ _) (by rw [e, o2]; unfold LL at *; omega)).1, e, o2]
  rfl
theorem neg_leaf (a o : Nat → Int) (ho : eqN 4 o ordF = true) : (V.ints .u8 32 (storeO (belO o (minusO o (redO 4 (loadO a)))))).den z0 = (V.ints .u8 32 (negO a)).den z0 := by
  obtain ⟨h1, h2⟩ := neg_u a ho
  rw [store_eq (bel_n h1 ho), h2, negO_eq]
  have : (LL - num a % LL) % LL = -num a % LL := by unfold LL; omega
  rw [this]
theorem negS_t (o : Nat → Int) (a : Nat → Int) : awp Tryd.prog p25 noG 300 (body Tryd.f29) (ends Tryd.prog Tryd.f29 fun v _ => okV (V.ints .u8 32 (negO a)) v) ⟨[V.ints .u8 32 a] ++ List.replicate 14 V.un, [V.tup [V.fn 2, V.ints .u64 4 o]]⟩ = (gB (eqN 4 o ordF) (gB (u4O (minusO o (redO 4 (loadO a))) && eqN 4 o ordF) ((V.ints .u8 32 (storeO (belO o (minusO o (redO 4 (loadO a)))))).den z0 = (V.ints .u8 32 (negO a)).den z0))) := by kernel_rfl
theorem negS_a (o : Nat → Int) (a : Nat → Int) (ho : eqN 4 o ordF = true) : awp Tryd.prog p25 noG 300 (body Tryd.f29) (ends Tryd.prog Tryd.f29 fun v _ => okV (V.ints .u8 32 (negO a)) v) ⟨[V.ints .u8 32 a] ++ List.replicate 14 V.un, [V.tup [V.fn 2, V.ints .u64 4 o]]⟩ := by
  rw [negS_t]
  exact (gm ho (gm (both (u4O_t (neg_u a ho).1) ho) (neg_leaf a o ho)))
noncomputable def g29 : List V → List V → Option (Bool × V) := fun vs m => match views [2] vs m with
  | some ([.ints .u8 32 a], [.tup [.fn 2, .ints .u64 4 o]]) => some (eqN 4 o ordF, (V.ints .u8 32 (negO a)))
  | _ => none
theorem g29_ok (vs m : List V) (v : V) (h : g29 vs m = some (true, v)) : v.flat = true ∧ ∀ μ B w0 w, Under B w0 → Rel μ B w0 m w → PureAt Tryd.prog 29 (vs.map (V.den μ)).toArray (v.den μ) w := by
  unfold g29 at h
  split at h
  · rename_i a o hv
    simp only [Option.some.injEq, Prod.mk.injEq] at h
    obtain ⟨h1, rfl⟩ := h
    refine ⟨rfl, ?_⟩
    exact reads_ok (fn := Tryd.f29) (N := 300) (n := 14) hM p25_ok (noG_ok _) Tryd.func29 (by kernel_rfl) (by kernel_rfl) hv rfl (negS_a o a h1) (by kernel_rfl)
  · cases h
theorem g29_grow (vs m : List V) (z : V) (r : Bool × V) (h : g29 vs m = some r) : g29 vs (m ++ [z]) = some r := by
  unfold g29 at h ⊢
  cases hv : views [2] vs m with
  | none => rw [hv] at h; cases h
  | some p => rw [hv] at h; rw [views_grow hv]; exact h
noncomputable def p29 : Orc := extM 29 g29 p25
theorem p29_ok : OrcOK Tryd.prog p29 := extM_ok p25_ok g29_ok g29_grow
theorem subS_t (o : Nat → Int) (a b : Nat → Int) : awp Tryd.prog p29 noG 300 (body Tryd.f27) (ends Tryd.prog Tryd.f27 fun v _ => okV (V.ints .u8 32 (addO a (negO b))) v) ⟨[V.ints .u8 32 a, V.ints .u8 32 b] ++ List.replicate 7 V.un, [V.tup [V.fn 2, V.ints .u64 4 o]]⟩ = (gB (eqN 4 o ordF) (gB (eqN 4 o ordF) ((V.ints .u8 32 (addO a (negO b))).den z0 = (V.ints .u8 32 (addO a (negO b))).den z0))) := by kernel_rfl
theorem subS_a (o : Nat → Int) (a b : Nat → Int) (ho : eqN 4 o ordF = true) : awp Tryd.prog p29 noG 300 (body Tryd.f27) (ends Tryd.prog Tryd.f27 fun v _ => okV (V.ints .u8 32 (addO a (negO b))) v) ⟨[V.ints .u8 32 a, V.ints .u8 32 b] ++ List.replicate 7 V.un, [V.tup [V.fn 2, V.ints .u64 4 o]]⟩ := by
  rw [subS_t]
  exact (gm ho (gm ho (rfl)))
noncomputable def g27 : List V → List V → Option (Bool × V) := fun vs m => match views [2] vs m with
  | some ([.ints .u8 32 a, .ints .u8 32 b], [.tup [.fn 2, .ints .u64 4 o]]) => some (eqN 4 o ordF, (V.ints .u8 32 (addO a (negO b))))
  | _ => none
theorem g27_ok (vs m : List V) (v : V) (h : g27 vs m = some (true, v)) : v.flat = true ∧ ∀ μ B w0 w, Under B w0 → Rel μ B w0 m w → PureAt Tryd.prog 27 (vs.map (V.den μ)).toArray (v.den μ) w := by
  unfold g27 at h
  split at h
  · rename_i a b o hv
    simp only [Option.some.injEq, Prod.mk.injEq] at h
    obtain ⟨h1, rfl⟩ := h
    refine ⟨rfl, ?_⟩
    exact reads_ok (fn := Tryd.f27) (N := 300) (n := 7) hM p29_ok (noG_ok _) Tryd.func27 (by kernel_rfl) (by kernel_rfl) hv rfl (subS_a o a b h1) (by kernel_rfl)
  · cases h
theorem g27_grow (vs m : List V) (z : V) (r : Bool × V) (h : g27 vs m = some r) : g27 vs (m ++ [z]) = some r := by
  unfold g27 at h ⊢
  cases hv : views [2] vs m with
  | none => rw [hv] at h; cases h
  | some p => rw [hv] at h; rw [views_grow hv]; exact h
noncomputable def p27 : Orc := extM 27 g27 p29
theorem p27_ok : OrcOK Tryd.prog p27 := extM_ok p29_ok g27_ok g27_grow
theorem times_44 (a b : Nat → Int) : (∀ j, U1 (timesR (loadO a) (loadO b) 4 4 j)) ∧ lvn 8 (timesR (loadO a) (loadO b) 4 4) = num a * num b :=
  times_v (n := 4) (fun j _ => loadO_U b j) 4 (fun j _ => loadO_U a j)
theorem mul_leaf (a b : Nat → Int) : (V.ints .u8 32 (storeO (redO 8 (timesR (loadO a) (loadO b) 4 4)))).den z0 = (V.ints .u8 32 (mulO a b)).den z0 := by
  rw [store_eq red_n, (times_44 a b).2, mulO_eq]
theorem mulS_t (o : Nat → Int) (a b : Nat → Int) : awp Tryd.prog p27 G48 300 (body Tryd.f21) (ends Tryd.prog Tryd.f21 fun v _ => okV (V.ints .u8 32 (mulO a b)) v) ⟨[V.ints .u8 32 a, V.ints .u8 32 b] ++ List.replicate 10 V.un, [V.tup [V.fn 2, V.ints .u64 4 o]]⟩ = (((gB (Nat.ble 8 8 && (uNO 8 (timesR (loadO a) (loadO b) 4 4) && eqN 4 o ordF)) ((V.ints .u8 32 (storeO (redO 8 (timesR (loadO a) (loadO b) 4 4)))).den z0 = (V.ints .u8 32 (mulO a b)).den z0)) ∧ (gB (Nat.ble 8 8 && (uNO 8 (timesR (loadO a) (loadO b) 4 4) && eqN 4 o ordF)) ((V.ints .u8 32 (storeO (redO 8 (timesR (loadO a) (loadO b) 4 4)))).den z0 = (V.ints .u8 32 (mulO a b)).den z0))) ∧ (gB (Nat.ble 8 8 && (uNO 8 (timesR (loadO a) (loadO b) 4 4) && eqN 4 o ordF)) ((V.ints .u8 32 (storeO (redO 8 (timesR (loadO a) (loadO b) 4 4)))).den z0 = (V.ints .u8 32 (mulO a b)).den z0))) := by kernel_rfl
theorem mulS_a (o : Nat → Int) (a b : Nat → Int) (ho : eqN 4 o ordF = true) : awp Tryd.prog p27 G48 300 (body Tryd.f21) (ends Tryd.prog Tryd.f21 fun v _ => okV (V.ints .u8 32 (mulO a b)) v) ⟨[V.ints .u8 32 a, V.ints .u8 32 b] ++ List.replicate 10 V.un, [V.tup [V.fn 2, V.ints .u64 4 o]]⟩ := by
  rw [mulS_t]
  exact ⟨⟨(gm (both rfl (both (uNO_t fun j _ => (times_44 a b).1 j) ho)) (mul_leaf a b)), (gm (both rfl (both (uNO_t fun j _ => (times_44 a b).1 j) ho)) (mul_leaf a b))⟩, (gm (both rfl (both (uNO_t fun j _ => (times_44 a b).1 j) ho)) (mul_leaf a b))⟩
noncomputable def g21 : List V → List V → Option (Bool × V) := fun vs m => match views [2] vs m with
  | some ([.ints .u8 32 a, .ints .u8 32 b], [.tup [.fn 2, .ints .u64 4 o]]) => some (eqN 4 o ordF, (V.ints .u8 32 (mulO a b)))
  | _ => none
theorem g21_ok (vs m : List V) (v : V) (h : g21 vs m = some (true, v)) : v.flat = true ∧ ∀ μ B w0 w, Under B w0 → Rel μ B w0 m w → PureAt Tryd.prog 21 (vs.map (V.den μ)).toArray (v.den μ) w := by
  unfold g21 at h
  split at h
  · rename_i a b o hv
    simp only [Option.some.injEq, Prod.mk.injEq] at h
    obtain ⟨h1, rfl⟩ := h
    refine ⟨rfl, ?_⟩
    exact reads_ok (fn := Tryd.f21) (N := 300) (n := 10) hM p27_ok (G48_ok) Tryd.func21 (by kernel_rfl) (by kernel_rfl) hv rfl (mulS_a o a b h1) (by kernel_rfl)
  · cases h
theorem g21_grow (vs m : List V) (z : V) (r : Bool × V) (h : g21 vs m = some r) : g21 vs (m ++ [z]) = some r := by
  unfold g21 at h ⊢
  cases hv : views [2] vs m with
  | none => rw [hv] at h; cases h
  | some p => rw [hv] at h; rw [views_grow hv]; exact h
noncomputable def p21 : Orc := extM 21 g21 p27
theorem p21_ok : OrcOK Tryd.prog p21 := extM_ok p27_ok g21_ok g21_grow
theorem maS_t (o : Nat → Int) (a b c : Nat → Int) : awp Tryd.prog p21 noG 300 (body Tryd.f23) (ends Tryd.prog Tryd.f23 fun v _ => okV (V.ints .u8 32 (addO (mulO a b) c)) v) ⟨[V.ints .u8 32 a, V.ints .u8 32 b, V.ints .u8 32 c] ++ List.replicate 9 V.un, [V.tup [V.fn 2, V.ints .u64 4 o]]⟩ = (gB (eqN 4 o ordF) (gB (eqN 4 o ordF) ((V.ints .u8 32 (addO (mulO a b) c)).den z0 = (V.ints .u8 32 (addO (mulO a b) c)).den z0))) := by kernel_rfl
theorem maS_a (o : Nat → Int) (a b c : Nat → Int) (ho : eqN 4 o ordF = true) : awp Tryd.prog p21 noG 300 (body Tryd.f23) (ends Tryd.prog Tryd.f23 fun v _ => okV (V.ints .u8 32 (addO (mulO a b) c)) v) ⟨[V.ints .u8 32 a, V.ints .u8 32 b, V.ints .u8 32 c] ++ List.replicate 9 V.un, [V.tup [V.fn 2, V.ints .u64 4 o]]⟩ := by
  rw [maS_t]
  exact (gm ho (gm ho (rfl)))
noncomputable def g23 : List V → List V → Option (Bool × V) := fun vs m => match views [2] vs m with
  | some ([.ints .u8 32 a, .ints .u8 32 b, .ints .u8 32 c], [.tup [.fn 2, .ints .u64 4 o]]) => some (eqN 4 o ordF, (V.ints .u8 32 (addO (mulO a b) c)))
  | _ => none
theorem g23_ok (vs m : List V) (v : V) (h : g23 vs m = some (true, v)) : v.flat = true ∧ ∀ μ B w0 w, Under B w0 → Rel μ B w0 m w → PureAt Tryd.prog 23 (vs.map (V.den μ)).toArray (v.den μ) w := by
  unfold g23 at h
  split at h
  · rename_i a b c o hv
    simp only [Option.some.injEq, Prod.mk.injEq] at h
    obtain ⟨h1, rfl⟩ := h
    refine ⟨rfl, ?_⟩
    exact reads_ok (fn := Tryd.f23) (N := 300) (n := 9) hM p21_ok (noG_ok _) Tryd.func23 (by kernel_rfl) (by kernel_rfl) hv rfl (maS_a o a b c h1) (by kernel_rfl)
  · cases h
theorem g23_grow (vs m : List V) (z : V) (r : Bool × V) (h : g23 vs m = some r) : g23 vs (m ++ [z]) = some r := by
  unfold g23 at h ⊢
  cases hv : views [2] vs m with
  | none => rw [hv] at h; cases h
  | some p => rw [hv] at h; rw [views_grow hv]; exact h
noncomputable def p23 : Orc := extM 23 g23 p21
theorem p23_ok : OrcOK Tryd.prog p23 := extM_ok p21_ok g23_ok g23_grow
theorem can_leaf (a o : Nat → Int) (ho : eqN 4 o ordF = true) : (V.bool (bcO (loadO a) o == 1)).den z0 = (V.bool (canO a)).den z0 := by
  obtain ⟨o1, o2⟩ := eq_ord ho
  have e : lv4 (loadO a) = num a := (lvn4 _).symm
  rw [bcO_eq, canO_eq]
  dsimp only
  by_cases h : num a < LL
  · rw [minus_lt (loadO_u4 a) o1 (by rw [e, o2]; exact h), decide_eq_true h]; rfl
  · rw [(minus_ge (loadO_u4 a) o1 (by rw [e, o2]; unfold LL at h; omega)).2, decide_eq_false h]; rfl
theorem canS_t (o : Nat → Int) (a : Nat → Int) : awp Tryd.prog p23 noG 300 (body Tryd.f19) (ends Tryd.prog Tryd.f19 fun v _ => okV (V.bool (canO a)) v) ⟨[V.ints .u8 32 a] ++ List.replicate 13 V.un, [V.tup [V.fn 2, V.ints .u64 4 o]]⟩ = ((V.bool (bcO (loadO a) o == 1)).den z0 = (V.bool (canO a)).den z0) := by kernel_rfl
theorem canS_a (o : Nat → Int) (a : Nat → Int) (ho : eqN 4 o ordF = true) : awp Tryd.prog p23 noG 300 (body Tryd.f19) (ends Tryd.prog Tryd.f19 fun v _ => okV (V.bool (canO a)) v) ⟨[V.ints .u8 32 a] ++ List.replicate 13 V.un, [V.tup [V.fn 2, V.ints .u64 4 o]]⟩ := by
  rw [canS_t]
  exact (can_leaf a o ho)
noncomputable def g19 : List V → List V → Option (Bool × V) := fun vs m => match views [2] vs m with
  | some ([.ints .u8 32 a], [.tup [.fn 2, .ints .u64 4 o]]) => some (eqN 4 o ordF, (V.bool (canO a)))
  | _ => none
theorem g19_ok (vs m : List V) (v : V) (h : g19 vs m = some (true, v)) : v.flat = true ∧ ∀ μ B w0 w, Under B w0 → Rel μ B w0 m w → PureAt Tryd.prog 19 (vs.map (V.den μ)).toArray (v.den μ) w := by
  unfold g19 at h
  split at h
  · rename_i a o hv
    simp only [Option.some.injEq, Prod.mk.injEq] at h
    obtain ⟨h1, rfl⟩ := h
    refine ⟨rfl, ?_⟩
    exact reads_ok (fn := Tryd.f19) (N := 300) (n := 13) hM p23_ok (noG_ok _) Tryd.func19 (by kernel_rfl) (by kernel_rfl) hv rfl (canS_a o a h1) (by kernel_rfl)
  · cases h
theorem g19_grow (vs m : List V) (z : V) (r : Bool × V) (h : g19 vs m = some r) : g19 vs (m ++ [z]) = some r := by
  unfold g19 at h ⊢
  cases hv : views [2] vs m with
  | none => rw [hv] at h; cases h
  | some p => rw [hv] at h; rw [views_grow hv]; exact h
noncomputable def p19 : Orc := extM 19 g19 p23
theorem p19_ok : OrcOK Tryd.prog p19 := extM_ok p23_ok g19_ok g19_grow
def wideF (w : Nat → Int) : Nat → Int := (up 7 (ldR w 56 8) (up 6 (ldR w 48 8) (up 5 (ldR w 40 8) (up 4 (ldR w 32 8) (up 3 (ldR w 24 8) (up 2 (ldR w 16 8) (up 1 (ldR w 8 8) (up 0 (ldR w 0 8) (fun _ => 0)))))))))
theorem wide_at (w : Nat → Int) : ∀ j, j < 8 → wideF w j = wideO w j := by
  intro j hj
  rw [wideO_eq]
  have : j = 0 ∨ j = 1 ∨ j = 2 ∨ j = 3 ∨ j = 4 ∨ j = 5 ∨ j = 6 ∨ j = 7 := by omega
  rcases this with rfl | rfl | rfl | rfl | rfl | rfl | rfl | rfl <;> rfl
theorem wide_U (w : Nat → Int) : ∀ j, j < 8 → U1 (wideF w j) := by
  intro j hj
  rw [wide_at w j hj, wideO_eq]
  exact ldR_U _ _ _
theorem rdc_leaf (w : Nat → Int) : (V.ints .u8 32 (storeO (redO 8 (wideF w)))).den z0 = (V.ints .u8 32 (rdcO w)).den z0 := by
  rw [store_eq red_n, lvn_congr (wide_at w), rdcO_eq]
theorem rdcS_t (o : Nat → Int) (w : Nat → Int) : awp Tryd.prog p19 noG 300 (body Tryd.f17) (ends Tryd.prog Tryd.f17 fun v _ => okV (V.ints .u8 32 (rdcO w)) v) ⟨[V.ints .u8 64 w] ++ List.replicate 20 V.un, [V.tup [V.fn 2, V.ints .u64 4 o]]⟩ = (gB (Nat.ble 8 8 && (uNO 8 (wideF w) && eqN 4 o ordF)) ((V.ints .u8 32 (storeO (redO 8 (wideF w)))).den z0 = (V.ints .u8 32 (rdcO w)).den z0)) := by kernel_rfl
theorem rdcS_a (o : Nat → Int) (w : Nat → Int) (ho : eqN 4 o ordF = true) : awp Tryd.prog p19 noG 300 (body Tryd.f17) (ends Tryd.prog Tryd.f17 fun v _ => okV (V.ints .u8 32 (rdcO w)) v) ⟨[V.ints .u8 64 w] ++ List.replicate 20 V.un, [V.tup [V.fn 2, V.ints .u64 4 o]]⟩ := by
  rw [rdcS_t]
  exact (gm (both rfl (both (uNO_t (wide_U w)) ho)) (rdc_leaf w))
noncomputable def g17 : List V → List V → Option (Bool × V) := fun vs m => match views [2] vs m with
  | some ([.ints .u8 64 w], [.tup [.fn 2, .ints .u64 4 o]]) => some (eqN 4 o ordF, (V.ints .u8 32 (rdcO w)))
  | _ => none
theorem g17_ok (vs m : List V) (v : V) (h : g17 vs m = some (true, v)) : v.flat = true ∧ ∀ μ B w0 w, Under B w0 → Rel μ B w0 m w → PureAt Tryd.prog 17 (vs.map (V.den μ)).toArray (v.den μ) w := by
  unfold g17 at h
  split at h
  · rename_i w o hv
    simp only [Option.some.injEq, Prod.mk.injEq] at h
    obtain ⟨h1, rfl⟩ := h
    refine ⟨rfl, ?_⟩
    exact reads_ok (fn := Tryd.f17) (N := 300) (n := 20) hM p19_ok (noG_ok _) Tryd.func17 (by kernel_rfl) (by kernel_rfl) hv rfl (rdcS_a o w h1) (by kernel_rfl)
  · cases h
theorem g17_grow (vs m : List V) (z : V) (r : Bool × V) (h : g17 vs m = some r) : g17 vs (m ++ [z]) = some r := by
  unfold g17 at h ⊢
  cases hv : views [2] vs m with
  | none => rw [hv] at h; cases h
  | some p => rw [hv] at h; rw [views_grow hv]; exact h
noncomputable def p17 : Orc := extM 17 g17 p19
theorem p17_ok : OrcOK Tryd.prog p17 := extM_ok p19_ok g17_ok g17_grow
end Go.Proofs.YtnoehjibponofaaDoor

/-
  From the listed variables to the evaluator's memory; a law's call. Conditions: none.
-/
namespace Go.Ev
open Go.RowKit Go.ChangeShapes Go.WideShapes Go.ChangeAt

/-- What a listed variable, an array of integers, holds. -/
theorem laid_ints {P : Program} {W : World} {name : String} {g : Nat} {cs : Array Value} {t e : TypeId} {k : IntKind} {n fuel : Nat} {f : Nat → Int} {p : List MemPlace} (hg : P.globalNamed name = some g) (hv : W.var? P name = some cs)
    (ht : P.underlying t = some (.array n e)) (he : P.underlying e = some (.int k)) (hc : P.cellsOf e = 1) (hd : DataW.trod (fun _ => ()) P W 0 (fun _ => true) false fuel t cs.toList = some (dArr k n f, p)) :
    ∀ j, j < n → W.cell? ⟨g, j, none⟩ = some (.int k (f j)) := by
  intro j hj
  obtain ⟨xs, m, rfl, hx, hlen, hxl, hel⟩ := DataW.trod_array ht hd
  have h1 := hel j hj
  have hxj : xs[j]? = some xs[j] := List.getElem?_eq_getElem (by omega)
  rw [hc, Nat.mul_one, hxj] at h1
  obtain ⟨q, e1, e2, _⟩ := DataW.trod_int he h1
  simp only [Prod.mk.injEq, dArr, DataW.agg.injEq] at hx
  have e3 := congrArg (fun l => l[j]?) hx.1
  simp only [List.getElem?_map, hxj, Option.map_some, e2, List.getElem?_range hj, Option.some.injEq, DataW.lit.injEq, Lit.int.injEq, true_and] at e3
  rw [World.var?_cell hg hv j]
  have e4 := congrArg (fun l => l[0]?) e1
  simp [List.getElem?_drop] at e4
  rw [e3]
  simpa using e4

/-- The memory of a call that begins: the package variables. -/
def memG (l : List (Nat × V)) : List V := l.map fun p => .tup [.fn p.1, p.2]
theorem rel_entry {W : World} {l : List (Nat × V)} (h : ∀ g u, (g, u) ∈ l → u.flat = true ∧ g < W.heap.size ∧ ∀ (j : Nat) (c : Value), (u.den z0).cells[j]? = some c → W.cell? ⟨g, j, none⟩ = some c) :
    RelM ⟨lowB W.heap.size, W, 0, fun i => ((l.getD i (0, V.un)).1, 0)⟩ (fun i => ((l.getD i (0, V.un)).1, 0)) (memG l) W := by
  refine ⟨fun μ' hμ => ?_, Agree.refl _ _, Nat.zero_le _⟩
  have hold : ∀ id v, (memG l)[id]? = some v → Held μ' (lowB W.heap.size) W id v := by
    intro id v hv
    unfold memG at hv
    rw [List.getElem?_map, Option.map_eq_some_iff] at hv
    obtain ⟨⟨g, u⟩, hp, rfl⟩ := hv
    have hid := (List.getElem?_eq_some_iff.1 hp).1
    have hm : μ' id = (g, 0) := by
      rw [hμ id (by simpa [memG] using hid)]
      simp [List.getD_eq_getElem?_getD, hp]
    obtain ⟨hf, h1, h2⟩ := h g u (List.mem_of_getElem? hp)
    unfold Held
    show lowB W.heap.size (μ' id).1 ∧ (μ' id).1 < W.heap.size ∧ _
    rw [hm]
    refine ⟨h1, h1, fun g' hg' => ?_, fun j c hc => ?_⟩
    · have : tagOf (.tup [.fn g, u]) = some g := rfl
      rw [this] at hg'
      cases hg'; rfl
    · rw [flat_den hf z0 μ'] at hc
      rw [Nat.zero_add]
      exact h2 j c hc
  refine ⟨Keeps.refl _ _, hold, fun i j hi hj hb e => ?_⟩
  exact absurd (show lowB W.heap.size (μ' i).1 from (hold i _ (List.getElem?_eq_getElem hi)).lt) hb
theorem ints_cells {W : World} {g n : Nat} {k : IntKind} {f : Nat → Int} (hn : 0 < n) (h : ∀ j, j < n → W.cell? ⟨g, j, none⟩ = some (.int k (f j))) :
    (V.ints k n f).flat = true ∧ g < W.heap.size ∧ ∀ (j : Nat) (c : Value), ((V.ints k n f).den z0).cells[j]? = some c → W.cell? ⟨g, j, none⟩ = some c := by
  refine ⟨rfl, World.block_lt_of_cell? W ⟨g, 0, none⟩ (h 0 hn), fun j c hc => ?_⟩
  rw [cells_ints] at hc
  simp only [List.getElem?_toArray, List.getElem?_map, Option.map_eq_some_iff] at hc
  obtain ⟨i, hi, rfl⟩ := hc
  obtain ⟨h1, h2⟩ := List.getElem?_eq_some_iff.1 hi
  simp at h1 h2
  subst h2
  exact h j h1

section
variable {P : Program} {F : Orc} {G : GOrc}
/-- A law's call. -/
theorem law_calls (hM : P.follows .mixedOrders = true) (hF : OrcOK P F) (hG : GOrcOK P G) {N : Nat} {f : FuncId} {fn : Func} (hf : P.funcs[f]? = some fn) (hb : fn.body.isSome = true) {l : List (Nat × V)} {args : List V} {W : World}
    (hl : ∀ g u, (g, u) ∈ l → u.flat = true ∧ g < W.heap.size ∧ ∀ (j : Nat) (c : Value), (u.den z0).cells[j]? = some c → W.cell? ⟨g, j, none⟩ = some c) (ha : V.flats args = true) {n : Nat}
    (h : awp P F G N (body fn) (ends P fn fun v _ => okV (V.bool true) v) ⟨args ++ List.replicate n V.un, memG l⟩) (hn : n = fn.ntmps - args.length) :
    Calls P f (args.map (V.den z0)).toArray W fun e W' => e = .returned (.bool true) ∧ Below W.heap.size W W' := by
  obtain ⟨c, hc⟩ := Option.isSome_iff_exists.1 hb
  have hbody : body fn = c := by simp [body, hc]
  rw [hbody] at h
  subst hn
  have hargs : ∀ μ' : Mu, (args.map (V.den z0)).toArray = (args.map (V.den μ')).toArray := by
    intro μ'
    have := flats_den ha μ' z0
    rw [dens_map, dens_map] at this
    rw [this]
  refine (calls_of_awp (C := ⟨lowB W.heap.size, W, 0, _⟩) hM hF hG hf hc (under_low (Nat.le_refl _)) (rel_entry hl) (fun μ' _ => hargs μ') h).mono fun e w' ⟨v, m', μ1, val, hK, he, hrm, hval⟩ => ?_
  have e1 := hval μ1 (Agree.refl _ _)
  unfold okV at hK
  split at hK
  · rename_i hfl
    rw [flat_den hfl z0 μ1, hK] at e1
    subst e1
    exact ⟨he, (hrm.all μ1 (Agree.refl _ _)).below.below⟩
  · exact hK.elim
end
end Go.Ev

/-
  1 + 1, 2 - 1, 2 times 2; the ring's law. Conditions: none.
-/
namespace Go.Proofs.YtnoehjibponofaaDoor
open Go.Ev
def oneF : Nat → Int := up 0 1 (fun _ => 0)
def twoF : Nat → Int := up 0 2 (fun _ => 0)
theorem eqN_mk {f g : Nat → Int} : ∀ {n : Nat}, (∀ j, j < n → f j = g j) → eqN n f g = true
  | 0, _ => rfl
  | n + 1, h => by
    simp only [eqN, Bool.and_eq_true, beq_iff_eq]
    exact ⟨eqN_mk fun j hj => h j (by omega), h n (by omega)⟩
theorem eqN_refl (n : Nat) (f : Nat → Int) : eqN n f f = true := eqN_mk fun _ _ => rfl
theorem ld_congr {f g : Nat → Int} {a : Nat} : ∀ {k : Nat}, (∀ j, j < a + k → f j = g j) → ldR f a k = ldR g a k
  | 0, _ => rfl
  | k + 1, h => by simp only [ldR]; rw [ld_congr (fun j hj => h j (by omega)), h (a + k) (by omega)]
theorem num_congr {a b : Nat → Int} (h : ∀ j, j < 32 → a j = b j) : num a = num b := by
  unfold num
  rw [loadO_eq]
  refine lvn_congr fun j hj => ?_
  unfold loadF
  exact ld_congr fun i hi => h i (by omega)
theorem num_nat {a : Nat → Int} {v : Int} (h0 : 0 ≤ v) (h1 : v < 115792089237316195423570985008687907853269984665640564039457584007913129639936) (h : ∀ j, j < 32 → a j = stF v j) : num a = v := by
  rw [num_congr h, num_st h0 h1]
theorem st_small {v : Int} (h0 : 0 ≤ v) (h1 : v < 256) : ∀ j, stF v j = up 0 v (fun _ => 0) j := by
  intro j
  rw [up_at]
  unfold stF
  split
  · rename_i h; subst h; rw [Int.pow_zero, Int.ediv_one]; omega
  · rename_i h
    obtain ⟨k, rfl⟩ : ∃ k, j = k + 1 := ⟨j - 1, by omega⟩
    have hp : (0 : Int) < 256 ^ k := Int.pow_pos (by omega)
    have : v < 256 ^ (k + 1) := by rw [Int.pow_succ]; omega
    rw [Int.ediv_eq_zero_of_lt h0 this]; rfl
theorem num_up {v : Int} (h0 : 0 ≤ v) (h1 : v < 256) : num (up 0 v (fun _ => 0)) = v :=
  num_nat h0 (by omega) fun j _ => (st_small h0 h1 j).symm
theorem num_zero : num (fun _ => 0) = 0 := num_nat (by omega) (by omega) fun j _ => by rw [st_small (by omega) (by omega), up_at]; split <;> rfl
theorem num_add (a b : Nat → Int) : num (addO a b) = (num a + num b) % LL := by rw [addO_eq]; exact num_mod _
theorem num_neg (a : Nat → Int) : num (negO a) = -num a % LL := by rw [negO_eq]; exact num_mod _
theorem num_mul (a b : Nat → Int) : num (mulO a b) = num a * num b % LL := by rw [mulO_eq]; exact num_mod _
theorem num_rdc (w : Nat → Int) : num (rdcO w) = lvn 8 (wideO w) % LL := by rw [rdcO_eq]; exact num_mod _
theorem can_iff (a : Nat → Int) : canO a = decide (num a < LL) := by rw [canO_eq]
/-- An answer is the bytes of its number. -/
theorem add_st (a b : Nat → Int) : addO a b = stF (num (addO a b)) := by rw [num_add, addO_eq]
theorem neg_st (a : Nat → Int) : negO a = stF (num (negO a)) := by rw [num_neg, negO_eq]
theorem mul_st (a b : Nat → Int) : mulO a b = stF (num (mulO a b)) := by rw [num_mul, mulO_eq]
theorem rdc_st (w : Nat → Int) : rdcO w = stF (num (rdcO w)) := by rw [num_rdc, rdcO_eq]
theorem ea (a b : Int) : (a % LL + b) % LL = (a + b) % LL := Int.emod_add_emod _ _ _
theorem eb (a b : Int) : (a + b % LL) % LL = (a + b) % LL := by rw [Int.add_comm, ea, Int.add_comm]
theorem ma (a b : Int) : (a % LL * b) % LL = (a * b) % LL := by rw [Int.mul_emod, Int.emod_emod_of_dvd _ (Int.dvd_refl _), ← Int.mul_emod]
theorem mb (a b : Int) : (a * (b % LL)) % LL = (a * b) % LL := by rw [Int.mul_comm, ma, Int.mul_comm]
theorem na (a : Int) : (-(a % LL)) % LL = -a % LL := by
  have e : -a = -(a % LL) + LL * -(a / LL) := by have := Int.mul_ediv_add_emod a LL; rw [Int.mul_neg]; omega
  rw [e, Int.add_mul_emod_self_left]
theorem mm (a : Int) : a % LL % LL = a % LL := Int.emod_emod_of_dvd _ (Int.dvd_refl _)
theorem nn (a : Int) : -(-a % LL) % LL = a % LL := by rw [na, Int.neg_neg]
theorem can_mod {a : Nat → Int} (n : Int) (h : num a = n % LL) : canO a = true := by rw [can_iff, h]; exact decide_eq_true (mod_nn n).2
theorem known_t (o x y : Nat → Int) : awp Tryd.prog p17 noG 300 (body Tryd.f33) (ends Tryd.prog Tryd.f33 fun v _ => okV (V.bool true) v) ⟨[] ++ List.replicate 20 V.un, [(V.tup [V.fn 2, (V.ints .u64 4 o)]), (V.tup [V.fn 0, (V.ints .u8 32 x)]), (V.tup [V.fn 3, (V.ints .u8 32 y)])]⟩ = (gB (eqN 4 o ordF) (mB (eqN 32 (addO x x) y) (gB (eqN 4 o ordF) (mB (eqN 32 (addO y (negO x)) x) (gB (eqN 4 o ordF) ((V.bool (eqN 32 (mulO y y) (up 0 4 (fun _ => 0)))).den z0 = (V.bool true).den z0)) ((V.bool false).den z0 = (V.bool true).den z0))) ((V.bool false).den z0 = (V.bool true).den z0))) := by kernel_rfl
theorem known_vals {x y : Nat → Int} (hx : eqN 32 x oneF = true) (hy : eqN 32 y twoF = true) : eqN 32 (addO x x) y = true ∧ eqN 32 (addO y (negO x)) x = true ∧ eqN 32 (mulO y y) (up 0 4 (fun _ => 0)) = true := by
  have X := eqN_at hx; have Y := eqN_at hy
  have n1 : num x = 1 := by rw [num_congr X]; exact num_up (by omega) (by omega)
  have n2 : num y = 2 := by rw [num_congr Y]; exact num_up (by omega) (by omega)
  refine ⟨eqN_mk fun j hj => ?_, eqN_mk fun j hj => ?_, eqN_mk fun j hj => ?_⟩
  · rw [add_st, num_add, n1, Y j hj, show ((1 : Int) + 1) % LL = 2 by decide]; exact st_small (by omega) (by omega) j
  · rw [add_st, num_add, num_neg, n1, n2, X j hj, show ((2 : Int) + -1 % LL) % LL = 1 by decide]; exact st_small (by omega) (by omega) j
  · rw [mul_st, num_mul, n2, show ((2 : Int) * 2) % LL = 4 by decide]; exact st_small (by omega) (by omega) j
theorem known_a {o x y : Nat → Int} (ho : eqN 4 o ordF = true) (hx : eqN 32 x oneF = true) (hy : eqN 32 y twoF = true) : awp Tryd.prog p17 noG 300 (body Tryd.f33) (ends Tryd.prog Tryd.f33 fun v _ => okV (V.bool true) v) ⟨[] ++ List.replicate 20 V.un, [(V.tup [V.fn 2, (V.ints .u64 4 o)]), (V.tup [V.fn 0, (V.ints .u8 32 x)]), (V.tup [V.fn 3, (V.ints .u8 32 y)])]⟩ := by
  have k := known_vals hx hy
  rw [known_t]
  refine gm ho ?_
  refine mBt (fun h0 => ?_) (fun h0 => ?_)
  · refine gm ho ?_
    refine mBt (fun h1 => ?_) (fun h1 => ?_)
    · refine gm ho ?_
      first | rfl | (rw [k.2.2])
    · rw [k.2.1] at h1; cases h1
  · rw [k.1] at h0; cases h0
noncomputable def g33 : List V → List V → Option (Bool × V) := fun vs m => match views [2, 0, 3] vs m with
  | some ([], [.tup [.fn 2, .ints .u64 4 o], .tup [.fn 0, .ints .u8 32 x], .tup [.fn 3, .ints .u8 32 y]]) => some (eqN 4 o ordF && (eqN 32 x oneF && eqN 32 y twoF), .bool true)
  | _ => none
theorem g33_ok (vs m : List V) (v : V) (h : g33 vs m = some (true, v)) : v.flat = true ∧ ∀ μ B w0 w, Under B w0 → Rel μ B w0 m w → PureAt Tryd.prog 33 (vs.map (V.den μ)).toArray (v.den μ) w := by
  unfold g33 at h
  split at h
  · rename_i o x y hv
    simp only [Option.some.injEq, Prod.mk.injEq, Bool.and_eq_true] at h
    obtain ⟨⟨h1, h2, h3⟩, rfl⟩ := h
    refine ⟨rfl, ?_⟩
    exact reads_ok (fn := Tryd.f33) (N := 300) (n := 20) hM p17_ok (noG_ok _) Tryd.func33 (by kernel_rfl) (by kernel_rfl) hv rfl (known_a h1 h2 h3) (by kernel_rfl)
  · cases h
theorem g33_grow (vs m : List V) (z : V) (r : Bool × V) (h : g33 vs m = some r) : g33 vs (m ++ [z]) = some r := by
  unfold g33 at h ⊢
  cases hv : views [2, 0, 3] vs m with
  | none => rw [hv] at h; cases h
  | some p => rw [hv] at h; rw [views_grow hv]; exact h
noncomputable def p33 : Orc := extM 33 g33 p17
theorem p33_ok : OrcOK Tryd.prog p33 := extM_ok p17_ok g33_ok g33_grow
noncomputable def lawRing (a : (Nat → Int)) (b : (Nat → Int)) (c : (Nat → Int)) : Bool := (cond (!(canO (addO a b))) false (cond (!(canO (mulO a b))) false (cond (!(canO (negO a))) false (cond (!(eqN 32 (addO a b) (addO b a))) false (cond (!(eqN 32 (mulO a b) (mulO b a))) false (cond (!(eqN 32 (addO (addO a b) c) (addO a (addO b c)))) false (cond (!(eqN 32 (mulO (mulO a b) c) (mulO a (mulO b c)))) false (cond (!(eqN 32 (mulO (addO a b) c) (addO (mulO a c) (mulO b c)))) false (cond (!(eqN 32 (addO (mulO a b) c) (addO (mulO a b) c))) false (cond (eqN 32 (addO a (negO a)) (fun _ => 0)) (cond (eqN 32 (addO a (negO b)) (addO a (negO b))) (cond (eqN 32 (mulO a oneF) (addO a (fun _ => 0))) (eqN 32 (mulO a (fun _ => 0)) (fun _ => 0)) false) false) false))))))))))
theorem lawRing_t (a : (Nat → Int)) (b : (Nat → Int)) (c : (Nat → Int)) : awp Tryd.prog p33 noG 300 (body Tryd.f8) (ends Tryd.prog Tryd.f8 fun v _ => okV (V.bool (lawRing a b c)) v) ⟨[(V.ints .u8 32 a), (V.ints .u8 32 b), (V.ints .u8 32 c)] ++ List.replicate 116 V.un, [(V.tup [V.fn 2, (V.ints .u64 4 ordF)]), (V.tup [V.fn 0, (V.ints .u8 32 oneF)]), (V.tup [V.fn 3, (V.ints .u8 32 twoF)])]⟩ = (mB (!(canO (addO a b))) ((V.bool false).den z0 = (V.bool (lawRing a b c)).den z0) (mB (!(canO (mulO a b))) ((V.bool false).den z0 = (V.bool (lawRing a b c)).den z0) (mB (!(canO (negO a))) ((V.bool false).den z0 = (V.bool (lawRing a b c)).den z0) (mB (!(eqN 32 (addO a b) (addO b a))) ((V.bool false).den z0 = (V.bool (lawRing a b c)).den z0) (mB (!(eqN 32 (mulO a b) (mulO b a))) ((V.bool false).den z0 = (V.bool (lawRing a b c)).den z0) (mB (!(eqN 32 (addO (addO a b) c) (addO a (addO b c)))) ((V.bool false).den z0 = (V.bool (lawRing a b c)).den z0) (mB (!(eqN 32 (mulO (mulO a b) c) (mulO a (mulO b c)))) ((V.bool false).den z0 = (V.bool (lawRing a b c)).den z0) (mB (!(eqN 32 (mulO (addO a b) c) (addO (mulO a c) (mulO b c)))) ((V.bool false).den z0 = (V.bool (lawRing a b c)).den z0) (mB (!(eqN 32 (addO (mulO a b) c) (addO (mulO a b) c))) ((V.bool false).den z0 = (V.bool (lawRing a b c)).den z0) (mB (eqN 32 (addO a (negO a)) (fun _ => 0)) (mB (eqN 32 (addO a (negO b)) (addO a (negO b))) (mB (eqN 32 (mulO a oneF) (addO a (fun _ => 0))) ((V.bool (eqN 32 (mulO a (fun _ => 0)) (fun _ => 0))).den z0 = (V.bool (lawRing a b c)).den z0) ((V.bool false).den z0 = (V.bool (lawRing a b c)).den z0)) ((V.bool false).den z0 = (V.bool (lawRing a b c)).den z0)) ((V.bool false).den z0 = (V.bool (lawRing a b c)).den z0))))))))))) := by kernel_rfl
theorem lawRing_a (a : (Nat → Int)) (b : (Nat → Int)) (c : (Nat → Int)) : awp Tryd.prog p33 noG 300 (body Tryd.f8) (ends Tryd.prog Tryd.f8 fun v _ => okV (V.bool (lawRing a b c)) v) ⟨[(V.ints .u8 32 a), (V.ints .u8 32 b), (V.ints .u8 32 c)] ++ List.replicate 116 V.un, [(V.tup [V.fn 2, (V.ints .u64 4 ordF)]), (V.tup [V.fn 0, (V.ints .u8 32 oneF)]), (V.tup [V.fn 3, (V.ints .u8 32 twoF)])]⟩ := by
  rw [lawRing_t]
  refine mBt (fun h1 => ?_) (fun h1 => ?_)
  · simp only [lawRing, h1, cond_true]
  · refine mBt (fun h2 => ?_) (fun h2 => ?_)
    · simp only [lawRing, h1, h2, cond_true, cond_false]
    · refine mBt (fun h3 => ?_) (fun h3 => ?_)
      · simp only [lawRing, h1, h2, h3, cond_true, cond_false]
      · refine mBt (fun h4 => ?_) (fun h4 => ?_)
        · simp only [lawRing, h1, h2, h3, h4, cond_true, cond_false]
        · refine mBt (fun h5 => ?_) (fun h5 => ?_)
          · simp only [lawRing, h1, h2, h3, h4, h5, cond_true, cond_false]
          · refine mBt (fun h6 => ?_) (fun h6 => ?_)
            · simp only [lawRing, h1, h2, h3, h4, h5, h6, cond_true, cond_false]
            · refine mBt (fun h7 => ?_) (fun h7 => ?_)
              · simp only [lawRing, h1, h2, h3, h4, h5, h6, h7, cond_true, cond_false]
              · refine mBt (fun h8 => ?_) (fun h8 => ?_)
                · simp only [lawRing, h1, h2, h3, h4, h5, h6, h7, h8, cond_true, cond_false]
                · refine mBt (fun h9 => ?_) (fun h9 => ?_)
                  · simp only [lawRing, h1, h2, h3, h4, h5, h6, h7, h8, h9, cond_true, cond_false]
                  · refine mBt (fun h10 => ?_) (fun h10 => ?_)
                    · refine mBt (fun h11 => ?_) (fun h11 => ?_)
                      · refine mBt (fun h12 => ?_) (fun h12 => ?_)
                        · simp only [lawRing, h1, h2, h3, h4, h5, h6, h7, h8, h9, h10, h11, h12, cond_true, cond_false]
                        · simp only [lawRing, h1, h2, h3, h4, h5, h6, h7, h8, h9, h10, h11, h12, cond_true, cond_false]
                      · simp only [lawRing, h1, h2, h3, h4, h5, h6, h7, h8, h9, h10, h11, cond_true, cond_false]
                    · simp only [lawRing, h1, h2, h3, h4, h5, h6, h7, h8, h9, h10, cond_false]
end Go.Proofs.YtnoehjibponofaaDoor

/-
  shifted, above: contracts; the laws of halves and of the one form. Conditions: none.
-/
namespace Go.Proofs.YtnoehjibponofaaDoor
open Go.Ev
def shiftF (a b : Nat → Int) : Nat → Int := (up 63 (b 31) (up 31 (a 31) (up 62 (b 30) (up 30 (a 30) (up 61 (b 29) (up 29 (a 29) (up 60 (b 28) (up 28 (a 28) (up 59 (b 27) (up 27 (a 27) (up 58 (b 26) (up 26 (a 26) (up 57 (b 25) (up 25 (a 25) (up 56 (b 24) (up 24 (a 24) (up 55 (b 23) (up 23 (a 23) (up 54 (b 22) (up 22 (a 22) (up 53 (b 21) (up 21 (a 21) (up 52 (b 20) (up 20 (a 20) (up 51 (b 19) (up 19 (a 19) (up 50 (b 18) (up 18 (a 18) (up 49 (b 17) (up 17 (a 17) (up 48 (b 16) (up 16 (a 16) (up 47 (b 15) (up 15 (a 15) (up 46 (b 14) (up 14 (a 14) (up 45 (b 13) (up 13 (a 13) (up 44 (b 12) (up 12 (a 12) (up 43 (b 11) (up 11 (a 11) (up 42 (b 10) (up 10 (a 10) (up 41 (b 9) (up 9 (a 9) (up 40 (b 8) (up 8 (a 8) (up 39 (b 7) (up 7 (a 7) (up 38 (b 6) (up 6 (a 6) (up 37 (b 5) (up 5 (a 5) (up 36 (b 4) (up 4 (a 4) (up 35 (b 3) (up 3 (a 3) (up 34 (b 2) (up 2 (a 2) (up 33 (b 1) (up 1 (a 1) (up 32 (b 0) (up 0 (a 0) (fun _ => 0)))))))))))))))))))))))))))))))))))))))))))))))))))))))))))))))))
theorem shift_a (a b : Nat → Int) : awp Tryd.prog p33 noG 300 (body Tryd.f34) (ends Tryd.prog Tryd.f34 fun v _ => okV (V.ints .u8 64 (shiftF a b)) v) ⟨[V.ints .u8 32 a, V.ints .u8 32 b] ++ List.replicate 21 V.un, []⟩ := by
  have h : awp Tryd.prog p33 noG 300 (body Tryd.f34) (ends Tryd.prog Tryd.f34 fun v _ => okV (V.ints .u8 64 (shiftF a b)) v) ⟨[V.ints .u8 32 a, V.ints .u8 32 b] ++ List.replicate 21 V.un, []⟩ = okV (V.ints .u8 64 (shiftF a b)) (V.ints .u8 64 (shiftF a b)) := by kernel_rfl
  rw [h]
  exact okV_refl rfl
noncomputable def g34 : List V → Option (Bool × V) := fun | [.ints .u8 32 a, .ints .u8 32 b] => some (true, (V.ints .u8 64 (shiftF a b))) | _ => none
theorem g34_ok (vs : List V) (v : V) (h : g34 vs = some (true, v)) : (∀ μ μ', v.den μ' = v.den μ) ∧ ∀ μ w, PureAt Tryd.prog 34 (vs.map (V.den μ)).toArray (v.den μ) w := by
  unfold g34 at h
  split at h
  · simp only [Option.some.injEq, Prod.mk.injEq, true_and] at h
    subst h
    exact pure_ok (F := p33) (N := 300) (fn := Tryd.f34) (args := [_, _]) (r := _) (n := 21) hM p33_ok (noG_ok _) Tryd.func34 (by kernel_rfl) (by kernel_rfl) (by kernel_rfl) (by kernel_rfl) (shift_a _ _) (by kernel_rfl)
  · cases h
noncomputable def p34 : Orc := ext 34 g34 p33
theorem p34_ok : OrcOK Tryd.prog p34 := ext_ok p33_ok g34_ok
def abK (a o : Nat → Int) : Nat → Int
  | 0 => 0
  | k + 1 => quoI .i64 (addI .i64 (addI .i64 (IntKind.wrap .i64 (a k)) (IntKind.wrap .i64 (o k))) (abK a o k)) 256
def abS (a o : Nat → Int) (k : Nat) : Int := addI .i64 (addI .i64 (IntKind.wrap .i64 (a k)) (IntKind.wrap .i64 (o k))) (abK a o k)
def abF (a o : Nat → Int) : Nat → (Nat → Int)
  | 0 => a
  | k + 1 => up k (IntKind.wrap .u8 (remI (addI .i64 (addI .i64 (IntKind.wrap .i64 (a k)) (IntKind.wrap .i64 (o k))) (abK a o k)) 256)) (abF a o k)
theorem above_a (a o : Nat → Int) : awp Tryd.prog p34 noG 300 (body Tryd.f35) (ends Tryd.prog Tryd.f35 fun v _ => okV (V.tup [V.ints .u8 32 (abF a o 32), V.bool (abK a o 32 == 0)]) v) ⟨[V.ints .u8 32 a] ++ List.replicate 31 V.un, [V.tup [V.fn 1, V.ints .u8 32 o]]⟩ := by
  have h : awp Tryd.prog p34 noG 300 (body Tryd.f35) (ends Tryd.prog Tryd.f35 fun v _ => okV (V.tup [V.ints .u8 32 (abF a o 32), V.bool (abK a o 32 == 0)]) v) ⟨[V.ints .u8 32 a] ++ List.replicate 31 V.un, [V.tup [V.fn 1, V.ints .u8 32 o]]⟩ = okV (V.tup [V.ints .u8 32 (abF a o 32), V.bool (abK a o 32 == 0)]) (V.tup [V.ints .u8 32 (abF a o 32), V.bool (abK a o 32 == 0)]) := by kernel_rfl
  rw [h]
  exact okV_refl rfl
noncomputable def abFO : (Nat → Int) → (Nat → Int) → Nat → Int := Classical.choose (hide_ex fun a o => abF a o 32)
theorem abFO_eq : abFO = fun a o => abF a o 32 := Classical.choose_spec (hide_ex fun a o => abF a o 32)
noncomputable def abBO : (Nat → Int) → (Nat → Int) → Bool := Classical.choose (hide_ex fun a o => abK a o 32 == 0)
theorem abBO_eq : abBO = fun a o => abK a o 32 == 0 := Classical.choose_spec (hide_ex fun a o => abK a o 32 == 0)
noncomputable def g35 : List V → List V → Option (Bool × V) := fun vs m => match views [1] vs m with
  | some ([.ints .u8 32 a], [.tup [.fn 1, .ints .u8 32 o]]) => some (true, .tup [.ints .u8 32 (abFO a o), .bool (abBO a o)])
  | _ => none
theorem g35_ok (vs m : List V) (v : V) (h : g35 vs m = some (true, v)) : v.flat = true ∧ ∀ μ B w0 w, Under B w0 → Rel μ B w0 m w → PureAt Tryd.prog 35 (vs.map (V.den μ)).toArray (v.den μ) w := by
  unfold g35 at h
  split at h
  · rename_i a o hv
    simp only [Option.some.injEq, Prod.mk.injEq, true_and] at h
    subst h
    refine ⟨rfl, ?_⟩
    rw [abFO_eq, abBO_eq]
    exact reads_ok (fn := Tryd.f35) (N := 300) (n := 31) hM p34_ok (noG_ok _) Tryd.func35 (by kernel_rfl) (by kernel_rfl) hv rfl (above_a a o) (by kernel_rfl)
  · cases h
theorem g35_grow (vs m : List V) (z : V) (r : Bool × V) (h : g35 vs m = some r) : g35 vs (m ++ [z]) = some r := by
  unfold g35 at h ⊢
  cases hv : views [1] vs m with
  | none => rw [hv] at h; cases h
  | some p => rw [hv] at h; rw [views_grow hv]; exact h
noncomputable def p35 : Orc := extM 35 g35 p34
theorem p35_ok : OrcOK Tryd.prog p35 := extM_ok p34_ok g35_ok g35_grow
def ordB : Nat → Int := L [237, 211, 245, 92, 26, 99, 18, 88, 214, 156, 247, 162, 222, 249, 222, 20, 0, 0, 0, 0, 0, 0, 0, 0, 0, 0, 0, 0, 0, 0, 0, 16]
noncomputable def lawHalves (low : (Nat → Int)) (high : (Nat → Int)) : Bool := (eqN 32 (rdcO (shiftF low high)) (addO (mulO high (rdcO (shiftF (fun _ => 0) oneF))) low))
theorem lawHalves_t (low : (Nat → Int)) (high : (Nat → Int)) : awp Tryd.prog p35 noG 300 (body Tryd.f9) (ends Tryd.prog Tryd.f9 fun v _ => okV (V.bool (lawHalves low high)) v) ⟨[(V.ints .u8 32 low), (V.ints .u8 32 high)] ++ List.replicate 20 V.un, [(V.tup [V.fn 2, (V.ints .u64 4 ordF)]), (V.tup [V.fn 0, (V.ints .u8 32 oneF)]), (V.tup [V.fn 3, (V.ints .u8 32 twoF)])]⟩ = ((V.bool (eqN 32 (rdcO (shiftF low high)) (addO (mulO high (rdcO (shiftF (fun _ => 0) oneF))) low))).den z0 = (V.bool (lawHalves low high)).den z0) := by kernel_rfl
theorem lawHalves_a (low : (Nat → Int)) (high : (Nat → Int)) : awp Tryd.prog p35 noG 300 (body Tryd.f9) (ends Tryd.prog Tryd.f9 fun v _ => okV (V.bool (lawHalves low high)) v) ⟨[(V.ints .u8 32 low), (V.ints .u8 32 high)] ++ List.replicate 20 V.un, [(V.tup [V.fn 2, (V.ints .u64 4 ordF)]), (V.tup [V.fn 0, (V.ints .u8 32 oneF)]), (V.tup [V.fn 3, (V.ints .u8 32 twoF)])]⟩ := by
  rw [lawHalves_t]
  simp only [lawHalves]
def w32 (a : Nat → Int) : Nat → Int := (up 31 (a 31) (up 30 (a 30) (up 29 (a 29) (up 28 (a 28) (up 27 (a 27) (up 26 (a 26) (up 25 (a 25) (up 24 (a 24) (up 23 (a 23) (up 22 (a 22) (up 21 (a 21) (up 20 (a 20) (up 19 (a 19) (up 18 (a 18) (up 17 (a 17) (up 16 (a 16) (up 15 (a 15) (up 14 (a 14) (up 13 (a 13) (up 12 (a 12) (up 11 (a 11) (up 10 (a 10) (up 9 (a 9) (up 8 (a 8) (up 7 (a 7) (up 6 (a 6) (up 5 (a 5) (up 4 (a 4) (up 3 (a 3) (up 2 (a 2) (up 1 (a 1) (up 0 (a 0) (fun _ => 0)))))))))))))))))))))))))))))))))
noncomputable def lawOneForm (a : (Nat → Int)) : Bool := (cond (!(eqN 32 (rdcO (w32 a)) (addO a (fun _ => 0)))) false (cond (!(canO (rdcO (w32 a)))) false (cond (canO ordB) false (cond (!((canO a) == (eqN 32 (rdcO (w32 a)) a))) false (cond (!(abBO a ordB)) true (cond (!(canO (abFO a ordB))) (eqN 32 (addO (abFO a ordB) (fun _ => 0)) (rdcO (w32 a))) false))))))
theorem lawOneForm_t (a : (Nat → Int)) : awp Tryd.prog p35 noG 300 (body Tryd.f10) (ends Tryd.prog Tryd.f10 fun v _ => okV (V.bool (lawOneForm a)) v) ⟨[(V.ints .u8 32 a)] ++ List.replicate 64 V.un, [(V.tup [V.fn 2, (V.ints .u64 4 ordF)]), (V.tup [V.fn 0, (V.ints .u8 32 oneF)]), (V.tup [V.fn 3, (V.ints .u8 32 twoF)]), (V.tup [V.fn 1, (V.ints .u8 32 ordB)])]⟩ = (mB (!(eqN 32 (rdcO (w32 a)) (addO a (fun _ => 0)))) ((V.bool false).den z0 = (V.bool (lawOneForm a)).den z0) (mB (!(canO (rdcO (w32 a)))) ((V.bool false).den z0 = (V.bool (lawOneForm a)).den z0) (mB (canO ordB) ((V.bool false).den z0 = (V.bool (lawOneForm a)).den z0) (mB (!((canO a) == (eqN 32 (rdcO (w32 a)) a))) ((V.bool false).den z0 = (V.bool (lawOneForm a)).den z0) (mB (!(abBO a ordB)) ((V.bool true).den z0 = (V.bool (lawOneForm a)).den z0) (mB (!(canO (abFO a ordB))) ((V.bool (eqN 32 (addO (abFO a ordB) (fun _ => 0)) (rdcO (w32 a)))).den z0 = (V.bool (lawOneForm a)).den z0) ((V.bool false).den z0 = (V.bool (lawOneForm a)).den z0))))))) := by kernel_rfl
theorem lawOneForm_a (a : (Nat → Int)) : awp Tryd.prog p35 noG 300 (body Tryd.f10) (ends Tryd.prog Tryd.f10 fun v _ => okV (V.bool (lawOneForm a)) v) ⟨[(V.ints .u8 32 a)] ++ List.replicate 64 V.un, [(V.tup [V.fn 2, (V.ints .u64 4 ordF)]), (V.tup [V.fn 0, (V.ints .u8 32 oneF)]), (V.tup [V.fn 3, (V.ints .u8 32 twoF)]), (V.tup [V.fn 1, (V.ints .u8 32 ordB)])]⟩ := by
  rw [lawOneForm_t]
  refine mBt (fun h1 => ?_) (fun h1 => ?_)
  · simp only [lawOneForm, h1, cond_true]
  · refine mBt (fun h2 => ?_) (fun h2 => ?_)
    · simp only [lawOneForm, h1, h2, cond_true, cond_false]
    · refine mBt (fun h3 => ?_) (fun h3 => ?_)
      · simp only [lawOneForm, h1, h2, h3, cond_true, cond_false]
      · refine mBt (fun h4 => ?_) (fun h4 => ?_)
        · simp only [lawOneForm, h1, h2, h3, h4, cond_true, cond_false]
        · refine mBt (fun h5 => ?_) (fun h5 => ?_)
          · simp only [lawOneForm, h1, h2, h3, h4, h5, cond_true, cond_false]
          · refine mBt (fun h6 => ?_) (fun h6 => ?_)
            · simp only [lawOneForm, h1, h2, h3, h4, h5, h6, cond_true, cond_false]
            · simp only [lawOneForm, h1, h2, h3, h4, h5, h6, cond_false]
end Go.Proofs.YtnoehjibponofaaDoor

/-
  The ring's law answers true. Conditions: none.
-/
namespace Go.Proofs.YtnoehjibponofaaDoor
open Go.Ev
theorem eq_st {x y : Nat → Int} (hx : x = stF (num x)) (hy : y = stF (num y)) (h : num x = num y) : eqN 32 x y = true := by
  have : x = y := hx.trans ((congrArg stF h).trans hy.symm)
  rw [this]; exact eqN_refl _ _
theorem st_zero : stF 0 = fun _ => 0 := by funext j; simp [stF]
theorem zero_st : (fun _ => (0 : Int)) = stF (num (fun _ => 0)) := by rw [num_zero, st_zero]
theorem num_one : num oneF = 1 := num_up (by omega) (by omega)
theorem lawRing_true (a b c : Nat → Int) : lawRing a b c = true := by
  have c1 : canO (addO a b) = true := can_mod _ (num_add a b)
  have c2 : canO (mulO a b) = true := can_mod _ (num_mul a b)
  have c3 : canO (negO a) = true := can_mod _ (num_neg a)
  have e1 : eqN 32 (addO a b) (addO b a) = true := eq_st (add_st _ _) (add_st _ _) (by rw [num_add, num_add, Int.add_comm])
  have e2 : eqN 32 (mulO a b) (mulO b a) = true := eq_st (mul_st _ _) (mul_st _ _) (by rw [num_mul, num_mul, Int.mul_comm])
  have e3 : eqN 32 (addO (addO a b) c) (addO a (addO b c)) = true := eq_st (add_st _ _) (add_st _ _) (by simp only [num_add, ea, eb, Int.add_assoc])
  have e4 : eqN 32 (mulO (mulO a b) c) (mulO a (mulO b c)) = true := eq_st (mul_st _ _) (mul_st _ _) (by simp only [num_mul, ma, mb, Int.mul_assoc])
  have e5 : eqN 32 (mulO (addO a b) c) (addO (mulO a c) (mulO b c)) = true := eq_st (mul_st _ _) (add_st _ _) (by simp only [num_mul, num_add, ma, ea, eb, Int.add_mul])
  have e6 : eqN 32 (addO (mulO a b) c) (addO (mulO a b) c) = true := eqN_refl _ _
  have e7 : eqN 32 (addO a (negO a)) (fun _ => 0) = true := eq_st (add_st _ _) zero_st (by rw [num_add, num_neg, eb, num_zero, Int.add_right_neg]; rfl)
  have e8 : eqN 32 (addO a (negO b)) (addO a (negO b)) = true := eqN_refl _ _
  have e9 : eqN 32 (mulO a oneF) (addO a (fun _ => 0)) = true := eq_st (mul_st _ _) (add_st _ _) (by rw [num_mul, num_add, num_one, num_zero, Int.mul_one, Int.add_zero])
  have e10 : eqN 32 (mulO a (fun _ => 0)) (fun _ => 0) = true := eq_st (mul_st _ _) zero_st (by rw [num_mul, num_zero, Int.mul_zero]; rfl)
  simp only [lawRing, c1, c2, c3, e1, e2, e3, e4, e5, e6, e7, e8, e9, e10, Bool.not_true, cond_false, cond_true]
end Go.Proofs.YtnoehjibponofaaDoor

/-
  Digits: the number of a row of digits, carries, borrows, comparison. Plain. Conditions: none.
-/
namespace Go.Num

/-- The number of the first n digits to the base B, the lowest first. -/
def dv (B : Int) : Nat → (Nat → Int) → Int
  | 0, _ => 0
  | n + 1, a => a 0 + B * dv B n fun i => a (i + 1)
def pw (B : Int) : Nat → Int
  | 0 => 1
  | n + 1 => B * pw B n

theorem sm' (x : Int) (h0 : 0 ≤ x) (h1 : x < 18446744073709551616) : x % 18446744073709551616 = x := Int.emod_eq_of_lt h0 h1
theorem pw_pos {B : Int} (hB : 0 < B) : ∀ n, 0 < pw B n
  | 0 => by simp [pw]
  | n + 1 => Int.mul_pos hB (pw_pos hB n)

theorem dv_congr {B : Int} : ∀ {n : Nat} {a b : Nat → Int}, (∀ i, i < n → a i = b i) → dv B n a = dv B n b
  | 0, _, _, _ => rfl
  | n + 1, a, b, h => by
    simp only [dv]
    rw [h 0 (by omega), dv_congr (a := fun i => a (i + 1)) (b := fun i => b (i + 1)) fun i hi => h (i + 1) (by omega)]

theorem dv_add {B : Int} : ∀ {n : Nat} {a b : Nat → Int}, dv B n (fun i => a i + b i) = dv B n a + dv B n b
  | 0, _, _ => rfl
  | n + 1, a, b => by
    simp only [dv]
    rw [dv_add (a := fun i => a (i + 1)) (b := fun i => b (i + 1)), Int.mul_add]; omega
theorem dv_mul {B c : Int} : ∀ {n : Nat} {a : Nat → Int}, dv B n (fun i => c * a i) = c * dv B n a
  | 0, _ => by simp [dv]
  | n + 1, a => by
    simp only [dv]
    rw [dv_mul (a := fun i => a (i + 1)), Int.mul_add, Int.mul_left_comm]
theorem dv_zero {B : Int} : ∀ {n : Nat}, dv B n (fun _ => 0) = 0
  | 0 => rfl
  | n + 1 => by simp only [dv]; rw [dv_zero]; simp
/-- The topmost digit split off. -/
theorem dv_top {B : Int} : ∀ {n : Nat} {a : Nat → Int}, dv B (n + 1) a = dv B n a + pw B n * a n
  | 0, a => by simp [dv, pw]
  | n + 1, a => by
    rw [dv, dv_top, dv, pw]
    rw [Int.mul_add, Int.mul_assoc]; omega
theorem dv_split {B : Int} {m : Nat} : ∀ {n : Nat} {a : Nat → Int}, dv B (n + m) a = dv B n a + pw B n * dv B m fun i => a (n + i)
  | 0, a => by simp [dv, pw]
  | n + 1, a => by
    rw [show n + 1 + m = (n + m) + 1 by omega, dv, dv_split, dv, pw]
    rw [Int.mul_add, Int.mul_assoc, show (fun i => a (n + i + 1)) = (fun i => a (n + 1 + i)) from funext fun i => by congr 1; omega]; omega

theorem dv_bound {B : Int} (hB : 0 < B) : ∀ {n : Nat} {a : Nat → Int}, (∀ i, i < n → 0 ≤ a i ∧ a i < B) → 0 ≤ dv B n a ∧ dv B n a < pw B n
  | 0, _, _ => by simp [dv, pw]
  | n + 1, a, h => by
    have h0 := h 0 (by omega)
    obtain ⟨i0, i1⟩ := dv_bound hB (a := fun i => a (i + 1)) (n := n) fun i hi => h (i + 1) (by omega)
    simp only [dv, pw]
    refine ⟨Int.add_nonneg h0.1 (Int.mul_nonneg (by omega) i0), ?_⟩
    have h2 : dv B n (fun i => a (i + 1)) + 1 ≤ pw B n := by omega
    have h3 := Int.mul_le_mul_of_nonneg_left h2 (by omega : 0 ≤ B)
    rw [Int.mul_add] at h3
    omega

theorem dv_inj {B : Int} (hB : 0 < B) : ∀ {n : Nat} {a b : Nat → Int}, (∀ i, i < n → 0 ≤ a i ∧ a i < B) → (∀ i, i < n → 0 ≤ b i ∧ b i < B) → dv B n a = dv B n b → ∀ i, i < n → a i = b i
  | 0, _, _, _, _, _, i, hi => by omega
  | n + 1, a, b, ha, hb, h, i, hi => by
    simp only [dv] at h
    have a0 := ha 0 (by omega)
    have b0 := hb 0 (by omega)
    have e : a 0 = b 0 := by
      have h1 := congrArg (· % B) h
      simp only [Int.add_mul_emod_self_left] at h1
      rwa [Int.emod_eq_of_lt a0.1 a0.2, Int.emod_eq_of_lt b0.1 b0.2] at h1
    rw [e] at h
    have h2 : B * dv B n (fun i => a (i + 1)) = B * dv B n (fun i => b (i + 1)) := by omega
    have h3 := Int.eq_of_mul_eq_mul_left (by omega) h2
    cases i with
    | zero => exact e
    | succ i => exact dv_inj hB (a := fun i => a (i + 1)) (b := fun i => b (i + 1)) (fun i hi => ha (i + 1) (by omega)) (fun i hi => hb (i + 1) (by omega)) h3 i (by omega)

/-- Carries: c is the chain, o what stays; t comes in at the lowest. -/
theorem dv_carry {B : Int} : ∀ {n : Nat} {a c o : Nat → Int} {t : Int}, c 0 = a 0 + t → (∀ i, i < n → c (i + 1) = a (i + 1) + c i / B) → (∀ i, i < n → o i = c i % B) → o n = c n → dv B (n + 1) o = dv B (n + 1) a + t
  | 0, a, c, o, t, h0, _, _, ho => by simp only [dv]; rw [ho, h0]; omega
  | n + 1, a, c, o, t, h0, hs, ho, hn => by
    have ih := dv_carry (B := B) (n := n) (a := fun i => a (i + 1)) (c := fun i => c (i + 1)) (o := fun i => o (i + 1)) (t := c 0 / B) (hs 0 (by omega)) (fun i hi => hs (i + 1) (by omega)) (fun i hi => ho (i + 1) (by omega)) hn
    have e1 : dv B (n + 1 + 1) o = o 0 + B * dv B (n + 1) (fun i => o (i + 1)) := rfl
    have e2 : dv B (n + 1 + 1) a = a 0 + B * dv B (n + 1) (fun i => a (i + 1)) := rfl
    rw [e1, e2, ih, ho 0 (by omega), Int.mul_add]
    have := Int.emod_add_mul_ediv (c 0) B
    omega

/-- Borrows: d is the difference at a digit with the base lent, u what is owed. -/
theorem dv_borrow {B : Int} (hB : 0 < B) : ∀ {n : Nat} {a b d u o : Nat → Int}, (∀ i, i < n → d i = a i + B - b i - u i) → (∀ i, i < n → u (i + 1) = 1 - d i / B) → (∀ i, i < n → o i = d i % B) → dv B n o = dv B n a - dv B n b - u 0 + pw B n * u n
  | 0, a, b, d, u, o, _, _, _ => by simp only [dv, pw]; omega
  | n + 1, a, b, d, u, o, hd, hu, ho => by
    have ih := dv_borrow hB (n := n) (a := fun i => a (i + 1)) (b := fun i => b (i + 1)) (d := fun i => d (i + 1)) (u := fun i => u (i + 1)) (o := fun i => o (i + 1)) (fun i hi => hd (i + 1) (by omega)) (fun i hi => hu (i + 1) (by omega)) (fun i hi => ho (i + 1) (by omega))
    simp only [dv, pw]
    rw [ih, ho 0 (by omega)]
    have h1 := Int.emod_add_mul_ediv (d 0) B
    have h2 := hd 0 (by omega)
    have h3 := hu 0 (by omega)
    rw [Nat.zero_add] at h3
    simp only [Nat.zero_add]
    have h4 : B * (dv B n (fun i => a (i + 1)) - dv B n (fun i => b (i + 1)) - u 1 + pw B n * u (n + 1)) = B * dv B n (fun i => a (i + 1)) - B * dv B n (fun i => b (i + 1)) - B * u 1 + B * pw B n * u (n + 1) := by grind
    have h5 : B * u 1 = B - B * (d 0 / B) := by rw [h3]; grind
    omega

/-- Is a below b, from the topmost digit down? -/
def ltB (a b : Nat → Int) : Nat → Bool
  | 0 => false
  | n + 1 => cond (a n != b n) (decide (a n < b n)) (ltB a b n)

theorem ltB_spec {B : Int} (hB : 0 < B) : ∀ {n : Nat} {a b : Nat → Int}, (∀ i, i < n → 0 ≤ a i ∧ a i < B) → (∀ i, i < n → 0 ≤ b i ∧ b i < B) → ltB a b n = decide (dv B n a < dv B n b)
  | 0, _, _, _, _ => by simp [ltB, dv]
  | n + 1, a, b, ha, hb => by
    have ih := ltB_spec hB (n := n) (a := a) (b := b) (fun i hi => ha i (by omega)) (fun i hi => hb i (by omega))
    obtain ⟨a0, a1⟩ := dv_bound hB (n := n) (a := a) (fun i hi => ha i (by omega))
    obtain ⟨b0, b1⟩ := dv_bound hB (n := n) (a := b) (fun i hi => hb i (by omega))
    rw [dv_top, dv_top, ltB, ih]
    have hp := pw_pos hB n
    by_cases h : a n = b n
    · rw [h]; simp
    · have hne : (a n != b n) = true := by simpa using h
      rw [hne, cond_true]
      by_cases hlt : a n < b n
      · have : pw B n * (a n + 1) ≤ pw B n * b n := Int.mul_le_mul_of_nonneg_left (by omega) (by omega)
        rw [Int.mul_add] at this
        have h2 : dv B n a + pw B n * a n < dv B n b + pw B n * b n := by omega
        simp [hlt, h2]
      · have : pw B n * (b n + 1) ≤ pw B n * a n := Int.mul_le_mul_of_nonneg_left (by omega) (by omega)
        rw [Int.mul_add] at this
        have h2 : ¬ dv B n a + pw B n * a n < dv B n b + pw B n * b n := by omega
        simp [hlt, h2]

end Go.Num

/-
  Digits of a number, bits of a digit. Plain. Conditions: none.
-/
namespace Go.Num

theorem pw_eq (B : Int) : ∀ n, pw B n = B ^ n
  | 0 => by simp [pw]
  | n + 1 => by rw [pw, pw_eq B n, Int.pow_succ, Int.mul_comm]

theorem emod_mul' {B C N : Int} (hB : 0 < B) (hC : 0 < C) : N % B + B * (N / B % C) = N % (B * C) := by
  have h1 := Int.emod_add_mul_ediv N B
  have h2 := Int.emod_add_mul_ediv (N / B) C
  have e : N = (N % B + B * (N / B % C)) + (B * C) * (N / B / C) := by
    have : B * (N / B % C + C * (N / B / C)) = B * (N / B) := by rw [h2]
    rw [Int.mul_add, ← Int.mul_assoc] at this
    omega
  have r0 := Int.emod_nonneg N (show B ≠ 0 by omega)
  have r1 := Int.emod_lt_of_pos N hB
  have s0 := Int.emod_nonneg (N / B) (show C ≠ 0 by omega)
  have s1 := Int.emod_lt_of_pos (N / B) hC
  have s2 : B * (N / B % C) + B ≤ B * C := by
    have := Int.mul_le_mul_of_nonneg_left (show N / B % C + 1 ≤ C by omega) (show 0 ≤ B by omega)
    rw [Int.mul_add] at this; omega
  have s3 := Int.mul_nonneg (show 0 ≤ B by omega) s0
  conv => rhs; rw [e]
  rw [Int.add_mul_emod_self_left]
  exact (Int.emod_eq_of_lt (by omega) (by omega)).symm

theorem pow_pos' {B : Int} (hB : 0 < B) (n : Nat) : 0 < B ^ n := by rw [← pw_eq]; exact pw_pos hB n

/-- The digits of a number. -/
theorem dv_digits {B : Int} (hB : 0 < B) : ∀ {n : Nat} {N : Int}, dv B n (fun j => N / B ^ j % B) = N % B ^ n
  | 0, N => by simp [dv, Int.emod_one]
  | n + 1, N => by
    have ih := dv_digits hB (n := n) (N := N / B)
    have e : (fun i => N / B ^ (i + 1) % B) = fun j => N / B / B ^ j % B := funext fun j => by
      rw [Int.ediv_ediv_of_nonneg (by omega), Int.pow_succ, Int.mul_comm]
    rw [dv, e, ih]
    have h1 : B ^ (n + 1) = B * B ^ n := by rw [Int.pow_succ, Int.mul_comm]
    rw [h1, Int.pow_zero, Int.ediv_one]
    exact emod_mul' hB (pow_pos' hB n)

theorem bits_sum : ∀ {m : Nat} {M : Int}, (List.range m).foldl (fun acc i => acc + M / 2 ^ i % 2 * 2 ^ i) 0 = M % 2 ^ m
  | 0, M => by simp [Int.emod_one]
  | m + 1, M => by
    rw [List.range_succ, List.foldl_append, bits_sum]
    simp only [List.foldl_cons, List.foldl_nil]
    have := emod_mul' (B := 2 ^ m) (C := 2) (N := M) (pow_pos' (by omega) m) (by omega)
    rw [Int.pow_succ, ← this, Int.mul_comm (M / 2 ^ m % 2)]

/-- A bit of a number is a bit of one of its digits. -/
theorem digit_bit {k : Nat} {a : Nat → Int} {n m r : Nat} (h : ∀ i, i < n → 0 ≤ a i ∧ a i < 2 ^ k) (hm : m < n) (hr : r < k) :
    dv (2 ^ k) n a / 2 ^ (k * m + r) % 2 = a m / 2 ^ r % 2 := by
  have hB : (0 : Int) < 2 ^ k := pow_pos' (by omega) k
  obtain ⟨l, rfl⟩ : ∃ l, n = m + (l + 1) := ⟨n - m - 1, by omega⟩
  rw [dv_split, dv]
  have hlow := dv_bound hB (n := m) (a := a) fun i hi => h i (by omega)
  rw [Int.pow_add, ← Int.ediv_ediv_of_nonneg (by exact Int.le_of_lt (pow_pos' (by omega) _))]
  have hpw : pw (2 ^ k) m = 2 ^ (k * m) := by rw [pw_eq, Int.pow_mul]
  rw [hpw] at hlow ⊢
  have e1 : (dv (2 ^ k) m a + 2 ^ (k * m) * (a (m + 0) + 2 ^ k * dv (2 ^ k) l fun i => a (m + (i + 1)))) / 2 ^ (k * m) = a m + 2 ^ k * dv (2 ^ k) l fun i => a (m + (i + 1)) := by
    rw [Int.add_mul_ediv_left _ _ (Int.ne_of_gt (pow_pos' (by omega) _)), Int.ediv_eq_zero_of_lt hlow.1 hlow.2]; simp
  rw [e1]
  obtain ⟨d, rfl⟩ : ∃ d, k = r + (d + 1) := ⟨k - r - 1, by omega⟩
  have e2 : (2 : Int) ^ (r + (d + 1)) = 2 ^ r * (2 * 2 ^ d) := by rw [Int.pow_add, Int.pow_succ, Int.mul_comm (2 ^ d)]
  rw [e2, Int.mul_assoc, Int.add_mul_ediv_left _ _ (Int.ne_of_gt (pow_pos' (by omega) _)), Int.mul_assoc, Int.add_mul_emod_self_left]

end Go.Num

/-
  Scalars as rows of bytes; the laws of halves and of the one form answer true. Conditions: none.
-/
namespace Go.Proofs.YtnoehjibponofaaDoor
open Go.Ev Go.Num
def By (n : Nat) (a : Nat → Int) : Prop := ∀ j, j < n → 0 ≤ a j ∧ a j < 256
theorem by_up {v : Int} (h0 : 0 ≤ v) (h1 : v < 256) (n : Nat) : By n (up 0 v (fun _ => 0)) := by
  intro j _
  rw [up_at]
  split
  · exact ⟨h0, h1⟩
  · exact ⟨by omega, by omega⟩
theorem by_stF (N : Int) (n : Nat) : By n (stF N) := fun j _ => by unfold stF; exact ⟨by omega, by omega⟩
theorem ld_bytes {f : Nat → Int} {a : Nat} : ∀ {k : Nat}, k ≤ 8 → (∀ j, j < k → 0 ≤ f (a + j) ∧ f (a + j) < 256) → ldR f a k = dv 256 k fun j => f (a + j)
  | 0, _, _ => rfl
  | k + 1, hk, h => by
    have ih := ld_bytes (f := f) (a := a) (k := k) (by omega) fun j hj => h j (by omega)
    have hb := dv_bound (B := 256) (by omega) (n := k) (a := fun j => f (a + j)) fun j hj => h j (by omega)
    obtain ⟨h0, h1⟩ := h k (by omega)
    have hp : (0 : Int) < 256 ^ k := Int.pow_pos (by omega)
    have hp1 : (256 : Int) ^ (k + 1) ≤ 18446744073709551616 := by
      have h1 : (256 : Nat) ^ (k + 1) ≤ 256 ^ 8 := Nat.pow_le_pow_right (by omega) hk
      have h2 : (256 : Nat) ^ 8 = 18446744073709551616 := by decide
      have h3 : ((256 ^ (k + 1) : Nat) : Int) = 256 ^ (k + 1) := by simp
      omega
    have e256 : (256 : Int) ^ k = 2 ^ (8 * k) := by rw [Int.pow_mul]; rfl
    rw [pw_eq] at hb
    rw [dv_top, pw_eq, ldR, ih]
    generalize dv 256 k (fun j => f (a + j)) = x at *
    generalize f (a + k) = y at *
    have hw : IntKind.wrap .u64 y = y := by rw [wrap_u64]; omega
    have e : (256 : Int) ^ (k + 1) = 256 ^ k * 256 := Int.pow_succ _ _
    have hm : y * 256 ^ k ≤ 255 * 256 ^ k := Int.mul_le_mul_of_nonneg_right (by omega) (by omega)
    have hn : 0 ≤ y * 256 ^ k := Int.mul_nonneg h0 (by omega)
    have hs : shlI .u64 y ((8 * k : Nat) : Int) = y * 2 ^ (8 * k) := by
      rw [shlU _ (8 * k) (by omega), ← e256, sm _ hn (by omega)]
    rw [hw, hs, or_add x y (8 * k) hb.1 (by rw [← e256]; exact hb.2) h0 (by rw [← e256]; omega), ← e256, Int.mul_comm]
theorem lvn_bytes {f : Nat → Int} : ∀ {q : Nat}, By (8 * q) f → lvn q (fun j => ldR f (8 * j) 8) = dv 256 (8 * q) f
  | 0, _ => rfl
  | q + 1, h => by
    have ih := lvn_bytes (f := f) (q := q) fun j hj => h j (by omega)
    rw [lvn, ih, ld_bytes (Nat.le_refl 8) (fun j hj => h (8 * q + j) (by omega)), show 8 * (q + 1) = 8 * q + 8 by omega, dv_split, pw_eq, Int.pow_mul, Int.mul_comm]
    rfl
theorem num_bytes {a : Nat → Int} (h : By 32 a) : num a = dv 256 32 a := by
  have := lvn_bytes (q := 4) h
  unfold num
  rw [loadO_eq]
  rw [← this]
  rfl
theorem wide_bytes {w : Nat → Int} (h : By 64 w) : lvn 8 (wideO w) = dv 256 64 w := by
  have := lvn_bytes (q := 8) h
  rw [wideO_eq, ← this]
theorem st_bytes {a : Nat → Int} (h : By 32 a) : ∀ j, j < 32 → stF (num a) j = a j := by
  have hb := dv_bound (B := 256) (by omega) h
  rw [num_bytes h]
  refine dv_inj (B := 256) (by omega) (fun i _ => by_stF _ 32 i (by omega)) h ?_
  have := dv_digits (B := 256) (by omega) (n := 32) (N := dv 256 32 a)
  rw [pw_eq] at hb
  exact this.trans (Int.emod_eq_of_lt hb.1 hb.2)
theorem shift_lo (a b : Nat → Int) : ∀ j, j < 32 → shiftF a b j = a j := by
  intro j hj
  have : j = 0 ∨ j = 1 ∨ j = 2 ∨ j = 3 ∨ j = 4 ∨ j = 5 ∨ j = 6 ∨ j = 7 ∨ j = 8 ∨ j = 9 ∨ j = 10 ∨ j = 11 ∨ j = 12 ∨ j = 13 ∨ j = 14 ∨ j = 15 ∨ j = 16 ∨ j = 17 ∨ j = 18 ∨ j = 19 ∨ j = 20 ∨ j = 21 ∨ j = 22 ∨ j = 23 ∨ j = 24 ∨ j = 25 ∨ j = 26 ∨ j = 27 ∨ j = 28 ∨ j = 29 ∨ j = 30 ∨ j = 31 := by omega
  rcases this with rfl | rfl | rfl | rfl | rfl | rfl | rfl | rfl | rfl | rfl | rfl | rfl | rfl | rfl | rfl | rfl | rfl | rfl | rfl | rfl | rfl | rfl | rfl | rfl | rfl | rfl | rfl | rfl | rfl | rfl | rfl | rfl <;> rfl
theorem shift_hi (a b : Nat → Int) : ∀ j, j < 32 → shiftF a b (32 + j) = b j := by
  intro j hj
  have : j = 0 ∨ j = 1 ∨ j = 2 ∨ j = 3 ∨ j = 4 ∨ j = 5 ∨ j = 6 ∨ j = 7 ∨ j = 8 ∨ j = 9 ∨ j = 10 ∨ j = 11 ∨ j = 12 ∨ j = 13 ∨ j = 14 ∨ j = 15 ∨ j = 16 ∨ j = 17 ∨ j = 18 ∨ j = 19 ∨ j = 20 ∨ j = 21 ∨ j = 22 ∨ j = 23 ∨ j = 24 ∨ j = 25 ∨ j = 26 ∨ j = 27 ∨ j = 28 ∨ j = 29 ∨ j = 30 ∨ j = 31 := by omega
  rcases this with rfl | rfl | rfl | rfl | rfl | rfl | rfl | rfl | rfl | rfl | rfl | rfl | rfl | rfl | rfl | rfl | rfl | rfl | rfl | rfl | rfl | rfl | rfl | rfl | rfl | rfl | rfl | rfl | rfl | rfl | rfl | rfl <;> rfl
theorem w32_lo (a : Nat → Int) : ∀ j, j < 32 → w32 a j = a j := by
  intro j hj
  have : j = 0 ∨ j = 1 ∨ j = 2 ∨ j = 3 ∨ j = 4 ∨ j = 5 ∨ j = 6 ∨ j = 7 ∨ j = 8 ∨ j = 9 ∨ j = 10 ∨ j = 11 ∨ j = 12 ∨ j = 13 ∨ j = 14 ∨ j = 15 ∨ j = 16 ∨ j = 17 ∨ j = 18 ∨ j = 19 ∨ j = 20 ∨ j = 21 ∨ j = 22 ∨ j = 23 ∨ j = 24 ∨ j = 25 ∨ j = 26 ∨ j = 27 ∨ j = 28 ∨ j = 29 ∨ j = 30 ∨ j = 31 := by omega
  rcases this with rfl | rfl | rfl | rfl | rfl | rfl | rfl | rfl | rfl | rfl | rfl | rfl | rfl | rfl | rfl | rfl | rfl | rfl | rfl | rfl | rfl | rfl | rfl | rfl | rfl | rfl | rfl | rfl | rfl | rfl | rfl | rfl <;> rfl
theorem w32_hi (a : Nat → Int) : ∀ j, j < 32 → w32 a (32 + j) = 0 := by
  intro j hj
  have : j = 0 ∨ j = 1 ∨ j = 2 ∨ j = 3 ∨ j = 4 ∨ j = 5 ∨ j = 6 ∨ j = 7 ∨ j = 8 ∨ j = 9 ∨ j = 10 ∨ j = 11 ∨ j = 12 ∨ j = 13 ∨ j = 14 ∨ j = 15 ∨ j = 16 ∨ j = 17 ∨ j = 18 ∨ j = 19 ∨ j = 20 ∨ j = 21 ∨ j = 22 ∨ j = 23 ∨ j = 24 ∨ j = 25 ∨ j = 26 ∨ j = 27 ∨ j = 28 ∨ j = 29 ∨ j = 30 ∨ j = 31 := by omega
  rcases this with rfl | rfl | rfl | rfl | rfl | rfl | rfl | rfl | rfl | rfl | rfl | rfl | rfl | rfl | rfl | rfl | rfl | rfl | rfl | rfl | rfl | rfl | rfl | rfl | rfl | rfl | rfl | rfl | rfl | rfl | rfl | rfl <;> rfl
theorem by_join {w a b : Nat → Int} (h1 : ∀ j, j < 32 → w j = a j) (h2 : ∀ j, j < 32 → w (32 + j) = b j) (ha : By 32 a) (hb : By 32 b) : By 64 w := by
  intro j hj
  by_cases h : j < 32
  · rw [h1 j h]; exact ha j h
  · rw [show j = 32 + (j - 32) by omega, h2 (j - 32) (by omega)]; exact hb (j - 32) (by omega)
def P256 : Int := 115792089237316195423570985008687907853269984665640564039457584007913129639936
theorem wide_join {w a b : Nat → Int} (h1 : ∀ j, j < 32 → w j = a j) (h2 : ∀ j, j < 32 → w (32 + j) = b j) (ha : By 32 a) (hb : By 32 b) : lvn 8 (wideO w) = num a + P256 * num b := by
  rw [wide_bytes (by_join h1 h2 ha hb), show 64 = 32 + 32 from rfl, dv_split, dv_congr h1, dv_congr h2, num_bytes ha, num_bytes hb, pw_eq]
  rfl
theorem by_zero (n : Nat) : By n (fun _ => 0) := fun _ _ => ⟨by show (0 : Int) ≤ 0; omega, by show (0 : Int) < 256; omega⟩
theorem by_wf {n : Nat} {a : Nat → Int} (h : ∀ j, j < n → (Lit.int .u8 (a j)).wf = true) : By n a := fun j hj => wf_u8 (h j hj)
theorem by_one (n : Nat) : By n oneF := by_up (by omega) (by omega) n
theorem lawHalves_true {low high : Nat → Int} (hl : By 32 low) (hh : By 32 high) : lawHalves low high = true := by
  unfold lawHalves
  refine eq_st (rdc_st _) (add_st _ _) ?_
  rw [num_rdc, num_add, num_mul, num_rdc, wide_join (shift_lo low high) (shift_hi low high) hl hh, wide_join (shift_lo _ _) (shift_hi _ _) (by_zero 32) (by_one 32), num_zero, num_one, ea, ← ea (num high * _), mb, ea]
  rw [Int.zero_add, Int.mul_one, Int.add_comm, Int.mul_comm]
/-! ### One form -/
theorem ordB_by : By 32 ordB := by
  intro j hj
  have : j = 0 ∨ j = 1 ∨ j = 2 ∨ j = 3 ∨ j = 4 ∨ j = 5 ∨ j = 6 ∨ j = 7 ∨ j = 8 ∨ j = 9 ∨ j = 10 ∨ j = 11 ∨ j = 12 ∨ j = 13 ∨ j = 14 ∨ j = 15 ∨ j = 16 ∨ j = 17 ∨ j = 18 ∨ j = 19 ∨ j = 20 ∨ j = 21 ∨ j = 22 ∨ j = 23 ∨ j = 24 ∨ j = 25 ∨ j = 26 ∨ j = 27 ∨ j = 28 ∨ j = 29 ∨ j = 30 ∨ j = 31 := by omega
  rcases this with rfl | rfl | rfl | rfl | rfl | rfl | rfl | rfl | rfl | rfl | rfl | rfl | rfl | rfl | rfl | rfl | rfl | rfl | rfl | rfl | rfl | rfl | rfl | rfl | rfl | rfl | rfl | rfl | rfl | rfl | rfl | rfl <;> exact ⟨by decide, by decide⟩
theorem ordB_v : num ordB = LL := by rw [num_bytes ordB_by]; decide
theorem rem256 {x : Int} (h : 0 ≤ x) : remI x 256 = x % 256 := by unfold remI; rw [Int.tmod_eq_emod_of_nonneg h]
theorem quo256 {x : Int} (h : 0 ≤ x) (h1 : x < 65536) : quoI .i64 x 256 = x / 256 := by
  unfold quoI
  rw [Int.tdiv_eq_ediv_of_nonneg h, wrap_i64 _ (by omega)]
theorem ab_round {a o : Nat → Int} (ha : By 32 a) (ho : By 32 o) {k : Nat} (hk : k < 32) {c : Int} (h0 : 0 ≤ c) (h1 : c ≤ 1) :
    addI .i64 (addI .i64 (IntKind.wrap .i64 (a k)) (IntKind.wrap .i64 (o k))) c = a k + o k + c := by
  have x := ha k hk; have y := ho k hk
  unfold addI
  rw [wrap_i64 (a k) (by omega), wrap_i64 (o k) (by omega), wrap_i64 (a k + o k) (by omega), wrap_i64 _ (by omega)]
theorem ab_v {a o : Nat → Int} (ha : By 32 a) (ho : By 32 o) : ∀ k, k ≤ 32 →
    0 ≤ abK a o k ∧ abK a o k ≤ 1 ∧ By k (abF a o k) ∧ dv 256 k (abF a o k) + pw 256 k * abK a o k = dv 256 k a + dv 256 k o
  | 0, _ => ⟨by simp [abK], by simp [abK], fun j hj => by omega, by simp [dv, abK]⟩
  | k + 1, hk => by
    obtain ⟨h0, h1, h2, h3⟩ := ab_v ha ho k (by omega)
    have hr := ab_round ha ho (k := k) (by omega) h0 h1
    have x := ha k (by omega); have y := ho k (by omega)
    simp only [abK, abF, hr]
    rw [rem256 (by omega), quo256 (by omega) (by omega)]
    have hw : IntKind.wrap .u8 ((a k + o k + abK a o k) % 256) = (a k + o k + abK a o k) % 256 := by rw [wrap_u8]; omega
    rw [hw]
    generalize abK a o k = c at *
    refine ⟨by omega, by omega, fun j hj => ?_, ?_⟩
    · rw [up_at]
      split
      · exact ⟨by omega, by omega⟩
      · exact h2 j (by omega)
    · rw [dv_top, dv_top, dv_top, up_at, if_pos rfl, dv_congr (b := abF a o k) fun i hi => by rw [up_at, if_neg (by omega)]]
      rw [pw]
      have e : pw 256 k * ((a k + o k + c) % 256) + 256 * pw 256 k * ((a k + o k + c) / 256) = pw 256 k * (a k + o k + c) := by
        have := Int.emod_add_mul_ediv (a k + o k + c) 256
        generalize (a k + o k + c) / 256 = q at *
        generalize (a k + o k + c) % 256 = r at *
        rw [← this, Int.mul_add, Int.mul_comm 256 (pw 256 k), Int.mul_assoc]
      rw [Int.mul_add, Int.mul_add] at e
      omega
theorem lawOneForm_true {a : Nat → Int} (ha : By 32 a) : lawOneForm a = true := by
  have hw : lvn 8 (wideO (w32 a)) = num a := by rw [wide_join (w32_lo a) (w32_hi a) ha (by_zero 32), num_zero]; omega
  have hr : num (rdcO (w32 a)) = num a % LL := by rw [num_rdc, hw]
  have e1 : eqN 32 (rdcO (w32 a)) (addO a fun _ => 0) = true := eq_st (rdc_st _) (add_st _ _) (by rw [hr, num_add, num_zero, Int.add_zero])
  have e2 : canO (rdcO (w32 a)) = true := can_mod _ hr
  have e3 : canO ordB = false := by rw [can_iff, ordB_v]; exact decide_eq_false (by omega)
  have e4 : (canO a == eqN 32 (rdcO (w32 a)) a) = true := by
    rw [can_iff, beq_iff_eq, Bool.eq_iff_iff, decide_eq_true_iff]
    constructor
    · intro h
      refine eqN_mk fun j hj => ?_
      rw [rdc_st, hr, Int.emod_eq_of_lt (num_nn a).1 h]
      exact st_bytes ha j hj
    · intro h
      have := num_congr (eqN_at h)
      rw [hr] at this
      have := (mod_nn (num a)).2
      omega
  have e5 : abBO a ordB = true → canO (abFO a ordB) = false ∧ eqN 32 (addO (abFO a ordB) fun _ => 0) (rdcO (w32 a)) = true := by
    intro hb
    obtain ⟨h0, h1, h2, h3⟩ := ab_v ha ordB_by 32 (Nat.le_refl _)
    rw [abBO_eq] at hb
    rw [beq_iff_eq] at hb
    have hn : num (abFO a ordB) = num a + LL := by
      rw [abFO_eq]
      dsimp only
      rw [num_bytes h2, num_bytes ha, ← ordB_v, num_bytes ordB_by]
      rw [hb] at h3
      omega
    refine ⟨?_, eq_st (add_st _ _) (rdc_st _) ?_⟩
    · rw [can_iff, hn]
      have := (num_nn a).1
      exact decide_eq_false (by omega)
    · rw [num_add, num_zero, hr, hn, Int.add_zero, Int.add_emod_right]
  simp only [lawOneForm, e1, e2, e3, e4, Bool.not_true, cond_false]
  cases hb : abBO a ordB with
  | false => rfl
  | true => simp only [e5 hb, Bool.not_true, Bool.not_false, cond_true, cond_false]
end Go.Proofs.YtnoehjibponofaaDoor

/-
  p is a prime number; the small theorem of Fermat. Plain numbers, no program. Conditions: none.
-/
namespace Go.Num

/-- A prime number. -/
def Pr (n : Nat) : Prop := 2 ≤ n ∧ ∀ m, m ∣ n → m = 1 ∨ m = n

theorem Pr.coprime {q m : Nat} (hq : Pr q) (h : ¬ q ∣ m) : Nat.Coprime q m := by
  have h1 := hq.2 _ (Nat.gcd_dvd_left q m)
  rcases h1 with h1 | h1
  · exact h1
  · exact absurd (h1 ▸ Nat.gcd_dvd_right q m) h
theorem Pr.dvd_mul {q a b : Nat} (hq : Pr q) (h : q ∣ a * b) : q ∣ a ∨ q ∣ b := by
  by_cases ha : q ∣ a
  · exact .inl ha
  · exact .inr ((hq.coprime ha).dvd_of_dvd_mul_left h)

/-- A prime factor that is the number itself, or whose square is not above it. -/
theorem factor : ∀ n, 2 ≤ n → Pr n ∨ ∃ r, Pr r ∧ r ∣ n ∧ r * r ≤ n := by
  intro n
  induction n using Nat.strongRecOn with
  | _ n ih =>
    intro hn
    by_cases h : ∃ m, m ∣ n ∧ m ≠ 1 ∧ m ≠ n
    · obtain ⟨m, ⟨k, rfl⟩, h1, h2⟩ := h
      refine .inr ?_
      have hm0 : m ≠ 0 := by rintro rfl; simp at hn
      have hk0 : k ≠ 0 := by rintro rfl; simp at hn
      have hk1 : k ≠ 1 := by rintro rfl; simp at h2
      have key : ∀ a b, 2 ≤ a → 2 ≤ b → a ≤ b → a * b = m * k → ∃ r, Pr r ∧ r ∣ m * k ∧ r * r ≤ m * k := by
        intro a b ha hb hab he
        have hlt : a < m * k := by rw [← he]; exact Nat.lt_of_lt_of_le (by omega) (Nat.mul_le_mul_left a hb)
        have haa : a * a ≤ m * k := by rw [← he]; exact Nat.mul_le_mul_left a hab
        rcases ih a hlt ha with hp | ⟨r, hr, hd, hrr⟩
        · exact ⟨a, hp, ⟨b, he.symm⟩, haa⟩
        · exact ⟨r, hr, Nat.dvd_trans hd ⟨b, he.symm⟩, Nat.le_trans hrr (Nat.le_of_lt hlt)⟩
      rcases Nat.le_total m k with hle | hle
      · exact key m k (by omega) (by omega) hle rfl
      · exact key k m (by omega) (by omega) hle (Nat.mul_comm k m)
    · refine .inl ⟨hn, fun m hm => ?_⟩
      apply Classical.byContradiction
      intro hne
      exact h ⟨m, hm, fun e => hne (.inl e), fun e => hne (.inr e)⟩

/-! ### Fermat -/

/-- Choosing k of n. -/
def ch : Nat → Nat → Nat
  | _, 0 => 1
  | 0, _ + 1 => 0
  | n + 1, k + 1 => ch n k + ch n (k + 1)
theorem ch_gt : ∀ n k, n < k → ch n k = 0
  | 0, k + 1, _ => rfl
  | n + 1, k + 1, h => by rw [ch, ch_gt n k (by omega), ch_gt n (k + 1) (by omega)]
theorem ch_self : ∀ n, ch n n = 1
  | 0 => rfl
  | n + 1 => by rw [ch, ch_self n, ch_gt n (n + 1) (by omega)]
theorem ch_mul : ∀ n k, (k + 1) * ch (n + 1) (k + 1) = (n + 1) * ch n k
  | 0, 0 => rfl
  | 0, k + 1 => by rw [ch_gt 1 (k + 2) (by omega), ch_gt 0 (k + 1) (by omega)]; simp
  | n + 1, 0 => by
    have h := ch_mul n 0
    have h2 : ch (n + 1 + 1) (0 + 1) = ch (n + 1) 0 + ch (n + 1) (0 + 1) := rfl
    rw [h2]
    simp only [ch] at h ⊢
    omega
  | n + 1, k + 1 => by
    have h1 := ch_mul n k
    have h2 := ch_mul n (k + 1)
    rw [show ch (n + 1 + 1) (k + 1 + 1) = ch (n + 1) (k + 1) + ch (n + 1) (k + 1 + 1) from rfl]
    have h3 : ch (n + 1) (k + 1) = ch n k + ch n (k + 1) := rfl
    grind

theorem prime_ch {q : Nat} (hq : Pr q) {k : Nat} (h0 : 0 < k) (h1 : k < q) : q ∣ ch q k := by
  obtain ⟨k, rfl⟩ : ∃ j, k = j + 1 := ⟨k - 1, by omega⟩
  obtain ⟨n, rfl⟩ : ∃ j, q = j + 1 := ⟨q - 1, by omega⟩
  have h := ch_mul n k
  have hd : n + 1 ∣ (k + 1) * ch (n + 1) (k + 1) := ⟨ch n k, h⟩
  rcases hq.dvd_mul hd with h | h
  · exact absurd (Nat.le_of_dvd (by omega) h) (by omega)
  · exact h

/-- The sum of the first m terms of (a + 1)^n. -/
def bs (a n : Nat) : Nat → Nat
  | 0 => 0
  | m + 1 => bs a n m + ch n m * a ^ m
theorem bs_step (a n : Nat) : ∀ m, bs a (n + 1) (m + 1) = bs a n (m + 1) + a * bs a n m
  | 0 => by simp [bs, ch]
  | m + 1 => by
    have h := bs_step a n m
    rw [bs, h]
    rw [show bs a n (m + 1 + 1) = bs a n (m + 1) + ch n (m + 1) * a ^ (m + 1) from rfl]
    rw [show bs a n (m + 1) = bs a n m + ch n m * a ^ m from rfl]
    rw [show ch (n + 1) (m + 1) = ch n m + ch n (m + 1) from rfl, Nat.pow_succ]
    grind
theorem binomial (a : Nat) : ∀ n, (a + 1) ^ n = bs a n (n + 1)
  | 0 => by simp [bs, ch]
  | n + 1 => by
    rw [bs_step, Nat.pow_succ, binomial a n]
    rw [show bs a n (n + 1 + 1) = bs a n (n + 1) + ch n (n + 1) * a ^ (n + 1) from rfl, ch_gt n (n + 1) (by omega)]
    grind
theorem bs_mod {q : Nat} (hq : Pr q) (a : Nat) : ∀ m, m < q → bs a q (m + 1) % q = 1 % q
  | 0, _ => by simp [bs, ch]
  | m + 1, h => by
    rw [bs, Nat.add_mod, bs_mod hq a m (by omega)]
    obtain ⟨c, hc⟩ := prime_ch hq (k := m + 1) (by omega) h
    rw [hc, Nat.mul_assoc, Nat.mul_mod_right]
    simp
theorem fermat {q : Nat} (hq : Pr q) : ∀ a, a ^ q % q = a % q
  | 0 => by rw [Nat.zero_pow (by have := hq.1; omega)]
  | a + 1 => by
    have h2 := hq.1
    rw [binomial, bs, ch_self, Nat.one_mul, Nat.add_mod, fermat hq a]
    obtain ⟨m, hm⟩ : ∃ m, q = m + 1 := ⟨q - 1, by omega⟩
    have h := bs_mod hq a m (by omega)
    rw [← hm] at h
    rw [h, ← Nat.add_mod, Nat.add_comm]
theorem fermat1 {q : Nat} (hq : Pr q) {a : Nat} (h : ¬ q ∣ a) : a ^ (q - 1) % q = 1 % q := by
  have h2 := hq.1
  have h1 := fermat hq a
  obtain ⟨m, rfl⟩ : ∃ m, q = m + 1 := ⟨q - 1, by omega⟩
  rw [Nat.pow_succ] at h1
  simp only [Nat.add_sub_cancel]
  have hd : ((m + 1 : Nat) : Int) ∣ (a : Int) * ((a : Int) ^ m - 1) := by
    have : (((a ^ m * a : Nat) : Int) - (a : Int)) % ((m + 1 : Nat) : Int) = 0 := by
      have e : ((a ^ m * a : Nat) : Int) % ((m + 1 : Nat) : Int) = (a : Int) % ((m + 1 : Nat) : Int) := by exact_mod_cast h1
      rw [Int.sub_emod, e]; simp
    have e2 : (a : Int) * ((a : Int) ^ m - 1) = ((a ^ m * a : Nat) : Int) - (a : Int) := by push_cast; grind
    rw [e2]
    exact Int.dvd_of_emod_eq_zero this
  by_cases ha : a = 0
  · subst ha; exact absurd ⟨0, rfl⟩ h
  have h1 : 1 ≤ a ^ m := Nat.pow_pos (by omega)
  have hd2 : (m + 1) ∣ a * (a ^ m - 1) := by
    have : ((a * (a ^ m - 1) : Nat) : Int) = (a : Int) * ((a : Int) ^ m - 1) := by push_cast [h1]; rfl
    rw [← this] at hd
    exact_mod_cast hd
  have hd3 := (hq.coprime h).dvd_of_dvd_mul_left hd2
  obtain ⟨c, hc⟩ := hd3
  have : a ^ m = (m + 1) * c + 1 := by omega
  rw [this, Nat.add_comm, Nat.add_mul_mod_self_left]

theorem fermat_int {q : Nat} (hq : Pr q) {X : Int} (hx : X % q ≠ 0) : X ^ (q - 1) % q = 1 := by
  have h2 := hq.1
  obtain ⟨a, ha⟩ : ∃ a : Nat, X % q = (a : Int) := Int.eq_ofNat_of_zero_le (Int.emod_nonneg _ (by omega))
  have hn : ¬ q ∣ a := by
    rintro ⟨c, rfl⟩
    apply hx
    have h : X % q % q = 0 := by rw [ha]; push_cast; exact Int.mul_emod_right _ _
    rwa [Int.emod_emod_of_dvd _ (Int.dvd_refl _)] at h
  have h := fermat1 hq hn
  have h1 : ∀ n : Nat, (X % q) ^ n % q = X ^ n % q := by
    intro n
    induction n with
    | zero => simp
    | succ n ih => rw [Int.pow_succ, Int.pow_succ, Int.mul_emod, ih, Int.emod_emod_of_dvd _ (Int.dvd_refl _), ← Int.mul_emod]
  rw [← h1, ha]
  generalize q - 1 = m at *
  rw [Nat.mod_eq_of_lt (show 1 < q by omega)] at h
  exact_mod_cast h

/-! ### Powers modulo n, fast; a number all of whose prime factors are large -/

def pm (n : Nat) : Nat → Nat → Nat → Nat
  | 0, _, _ => 1 % n
  | fuel + 1, a, e => if e = 0 then 1 % n else if e % 2 = 0 then pm n fuel (a * a % n) (e / 2) else a * pm n fuel (a * a % n) (e / 2) % n
theorem pm_eq (n : Nat) : ∀ fuel a e, e < 2 ^ fuel → pm n fuel a e = a ^ e % n
  | 0, a, e, h => by
    obtain rfl : e = 0 := by simpa using h
    simp [pm]
  | fuel + 1, a, e, h => by
    unfold pm
    have hlt : e / 2 < 2 ^ fuel := by rw [Nat.pow_succ] at h; omega
    have ih := pm_eq n fuel (a * a % n) (e / 2) hlt
    have e1 : (a * a % n) ^ (e / 2) % n = (a * a) ^ (e / 2) % n := (Nat.pow_mod (a * a) (e / 2) n).symm
    have e2 : (a * a) ^ (e / 2) = a ^ (2 * (e / 2)) := by rw [Nat.pow_mul, Nat.pow_two]
    rw [ih, e1, e2]
    by_cases h0 : e = 0
    · subst h0; simp
    · rw [if_neg h0]
      by_cases hm : e % 2 = 0
      · rw [if_pos hm, show 2 * (e / 2) = e by omega]
      · rw [if_neg hm]
        have : e = 2 * (e / 2) + 1 := by omega
        conv => rhs; rw [this, Nat.pow_succ, Nat.mul_comm]
        rw [Nat.mul_mod, Nat.mod_mod, ← Nat.mul_mod]

theorem pow_gcd {r g : Nat} (hr : 1 < r) : ∀ a b, g ^ a % r = 1 → g ^ b % r = 1 → g ^ (Nat.gcd a b) % r = 1 := by
  intro a b
  induction a, b using Nat.gcd.induction with
  | H0 b => intro _ h; rw [Nat.gcd_zero_left]; exact h
  | H1 a b ha ih =>
    intro h1 h2
    rw [Nat.gcd_rec]
    refine ih ?_ h1
    have e : b = a * (b / a) + b % a := (Nat.div_add_mod b a).symm
    rw [e, Nat.pow_add, Nat.pow_mul, Nat.mul_mod, Nat.pow_mod, h1, Nat.one_pow, Nat.mod_eq_of_lt hr, Nat.one_mul, Nat.mod_mod] at h2
    exact h2

/-- Pocklington: n - 1 = q R, q a prime; g^(n - 1) is 1, and g^R - 1 has no factor in common with n; no factor 1 + k q below the root. -/
theorem pock {n q R g K : Nat} (hn : 2 ≤ n) (hq : Pr q) (hnq : n - 1 = q * R) (h1 : g ^ (n - 1) % n = 1) (h2 : Nat.gcd ((g ^ R % n + n - 1) % n) n = 1)
    (hK : n < (1 + (K + 1) * q) * (1 + (K + 1) * q)) (hk : ∀ k, k < K → n % (1 + (k + 1) * q) ≠ 0) : Pr n := by
  rcases factor n hn with h | ⟨r, hr, hd, hrr⟩
  · exact h
  exfalso
  have hr2 := hr.1
  have h1r : g ^ (n - 1) % r = 1 := by
    have : g ^ (n - 1) % n % r = 1 % r := by rw [h1]
    rw [Nat.mod_mod_of_dvd _ hd, Nat.mod_eq_of_lt (show 1 < r by omega)] at this
    exact this
  have hg : ¬ r ∣ g := by
    rintro ⟨c, rfl⟩
    obtain ⟨m, hm⟩ : ∃ m, n - 1 = m + 1 := ⟨n - 2, by omega⟩
    rw [hm, Nat.pow_succ, Nat.mul_comm, Nat.mul_assoc, Nat.mul_mod_right] at h1r
    omega
  have h2r := fermat1 hr hg
  rw [Nat.mod_eq_of_lt (show 1 < r by omega)] at h2r
  have hgcd := pow_gcd (by omega) _ _ h1r h2r
  by_cases hqr : q ∣ r - 1
  · obtain ⟨c, hc⟩ := hqr
    have hc0 : c ≠ 0 := by rintro rfl; omega
    have hrc : r = 1 + (c - 1 + 1) * q := by
      rw [show c - 1 + 1 = c by omega, Nat.mul_comm]; omega
    by_cases hcK : c - 1 < K
    · have := hk (c - 1) hcK
      rw [← hrc] at this
      exact this (Nat.mod_eq_zero_of_dvd hd)
    · have hle : 1 + (K + 1) * q ≤ r := by
        rw [hrc]
        have := Nat.mul_le_mul_right q (show K + 1 ≤ c - 1 + 1 by omega)
        omega
      have := Nat.mul_le_mul hle hle
      omega
  · have hcop := hq.coprime hqr
    have hgR : Nat.gcd (n - 1) (r - 1) ∣ R := by
      rw [hnq]
      have hc2 : Nat.Coprime (Nat.gcd (q * R) (r - 1)) q := by
        have h := Nat.gcd_dvd_right (q * R) (r - 1)
        exact (Nat.Coprime.coprime_dvd_right h hcop).symm
      exact hc2.dvd_of_dvd_mul_left (Nat.gcd_dvd_left _ _)
    obtain ⟨c, hc⟩ := hgR
    have hR : g ^ R % r = 1 := by
      rw [hc, Nat.pow_mul, Nat.pow_mod, hgcd, Nat.one_pow, Nat.mod_eq_of_lt (show 1 < r by omega)]
    have hdr : r ∣ (g ^ R % n + n - 1) % n := by
      have e1 : (g ^ R % n + n - 1) % n % r = (g ^ R % n + n - 1) % r := Nat.mod_mod_of_dvd _ hd
      have e2 : g ^ R % n % r = 1 := by rw [Nat.mod_mod_of_dvd _ hd, hR]
      obtain ⟨d, hd'⟩ := hd
      refine Nat.dvd_of_mod_eq_zero ?_
      rw [e1]
      have e3 : g ^ R % n = r * (g ^ R % n / r) + 1 := by
        have := Nat.div_add_mod (g ^ R % n) r
        omega
      have e4 : g ^ R % n + n - 1 = r * (g ^ R % n / r + d) := by
        rw [Nat.mul_add, ← hd']; omega
      rw [e4, Nat.mul_mod_right]
    have := Nat.dvd_gcd hdr hd
    rw [h2] at this
    have := Nat.le_of_dvd (by omega) this
    omega

theorem trial {n : Nat} (hn : 2 ≤ n) {K : Nat} (hK : n < (K + 2) * (K + 2)) (h : ∀ k, k < K → n % (k + 2) ≠ 0) : Pr n := by
  rcases factor n hn with h' | ⟨r, hr, hd, hrr⟩
  · exact h'
  exfalso
  have h2 := hr.1
  by_cases hlt : r - 2 < K
  · have := h (r - 2) hlt
    rw [show r - 2 + 2 = r by omega] at this
    exact this (Nat.mod_eq_zero_of_dvd hd)
  · have := Nat.mul_le_mul (show K + 2 ≤ r by omega) (show K + 2 ≤ r by omega)
    omega

theorem pock' {n q R g K : Nat} (hn : 2 ≤ n) (hb : n < 2 ^ 256) (hq : Pr q) (hnq : n - 1 = q * R) (h1 : pm n 256 g (n - 1) = 1) (h2 : Nat.gcd ((pm n 256 g R + n - 1) % n) n = 1)
    (hK : n < (1 + (K + 1) * q) * (1 + (K + 1) * q)) (hk : ∀ k, k < K → n % (1 + (k + 1) * q) ≠ 0) : Pr n := by
  have hq2 := hq.1
  have hR : R ≤ n - 1 := by rw [hnq]; exact Nat.le_mul_of_pos_left R (by omega)
  rw [pm_eq _ _ _ _ (Nat.lt_of_le_of_lt (Nat.sub_le n 1) hb)] at h1
  rw [pm_eq _ _ _ _ (Nat.lt_of_le_of_lt hR (Nat.lt_of_le_of_lt (Nat.sub_le n 1) hb))] at h2
  exact pock hn hq hnq h1 h2 hK hk

theorem pr991 : Pr 991 := trial (K := 30) (by decide) (by decide) (by decide)
theorem pr1 : Pr 8574133 := pock' (q := 991) (R := 8652) (g := 2) (K := 2) (by decide) (by decide) pr991 (by decide) (by decide +kernel) (by decide +kernel) (by decide) (by decide)
theorem pr2 : Pr 1919519569386763 := pock' (q := 8574133) (R := 223873314) (g := 2) (K := 5) (by decide) (by decide) pr1 (by decide) (by decide +kernel) (by decide +kernel) (by decide) (by decide)
theorem pr3 : Pr 75445702479781427272750846543864801 := pock' (q := 1919519569386763) (R := 39304471641247389600) (g := 2) (K := 143) (by decide) (by decide) pr2 (by decide) (by decide +kernel) (by decide +kernel) (by decide) (by decide +kernel)
theorem pr4 : Pr 74058212732561358302231226437062788676166966415465897661863160754340907 := pock' (q := 75445702479781427272750846543864801) (R := 981609426360740691344999861639072106) (g := 2) (K := 3) (by decide) (by decide) pr3 (by decide) (by decide +kernel) (by decide +kernel) (by decide) (by decide)
/-- 2^255 - 19 is a prime number. -/
theorem prP : Pr 57896044618658097711785492504343953926634992332820282019728792003956564819949 := pock' (q := 74058212732561358302231226437062788676166966415465897661863160754340907) (R := 781764) (g := 2) (K := 0) (by decide) (by decide) pr4 (by decide) (by decide +kernel) (by decide +kernel) (by decide) (by decide)
end Go.Num
