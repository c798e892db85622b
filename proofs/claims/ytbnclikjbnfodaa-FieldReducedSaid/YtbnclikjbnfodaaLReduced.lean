/-
  FieldReduced answers true. Conditions: none.
-/
import Derived.Test.YtbnclikjbnfodaaZ19
import Derived.Test.YtbnclikjbnfodaaWReduced
namespace Go.Proofs.Ytbnclikjbnfodaa
set_option maxRecDepth 100000
open Go.Ev Go.Num

theorem R5_congr {x y : Nat → Int} (h : R5 x) (e : ∀ j, j < 5 → y j = x j) : R5 y := by
  have hv : v5 y = v5 x := dv_congr e
  exact ⟨fun j hj => by rw [e j hj]; exact h.lim j hj, by rw [hv]; exact h.lt⟩
theorem reduced_R5 {x : Nat → Int} (h : R5 x) : reducedFO x = true := by
  rw [reducedFO_eq]
  unfold reducedF
  have l0 := h.lim 0 (by omega); have l1 := h.lim 1 (by omega); have l2 := h.lim 2 (by omega); have l3 := h.lim 3 (by omega); have l4 := h.lim 4 (by omega)
  have g := h.lt
  rw [v5_eq] at g
  have d0 : decide (x 0 ≥ 2251799813685248) = false := decide_eq_false (by omega)
  have d1 : decide (x 1 ≥ 2251799813685248) = false := decide_eq_false (by omega)
  have d2 : decide (x 2 ≥ 2251799813685248) = false := decide_eq_false (by omega)
  have d3 : decide (x 3 ≥ 2251799813685248) = false := decide_eq_false (by omega)
  have d4 : decide (x 4 ≥ 2251799813685248) = false := decide_eq_false (by omega)
  rw [d0, d1, d2, d3, d4]
  cases e1 : (x 1 != 2251799813685247) <;> cases e2 : (x 2 != 2251799813685247) <;> cases e3 : (x 3 != 2251799813685247) <;> cases e4 : (x 4 != 2251799813685247) <;> try rfl
  have e1 : x 1 = 2251799813685247 := by simpa using e1
  have e2 : x 2 = 2251799813685247 := by simpa using e2
  have e3 : x 3 = 2251799813685247 := by simpa using e3
  have e4 : x 4 = 2251799813685247 := by simpa using e4
  rw [e1, e2, e3, e4] at g
  have hp : p = 57896044618658097711785492504343953926634992332820282019728792003956564819949 := rfl
  simp only [cond_false]
  exact decide_eq_true (by omega)
theorem red_at {x : Nat → Int} {f : Nat → Int} (h : R5 x) (e : ∀ j, j < 5 → f j = x j) : reducedFO f = true := reduced_R5 (R5_congr h e)

theorem reduced_true {x y b : Nat → Int} (hx : U5 x) (hy : U5 y) (hb : B32 b) : lawReduced x y b = true := by
  have bx := bytesE (x := x) (a := kk (v5 x)) ⟨hx, rfl⟩
  have by' := bytesE (x := y) (a := kk (v5 y)) ⟨hy, rfl⟩
  have x0 := hx 0 (by omega)
  have r0 : reducedFO (sh 0 (allF x y b)) = true := red_at (x := addFO x y) (by rw [addFO_eq]; exact (add_i hx hy).2) (fiv rfl rfl rfl rfl rfl)
  have r1 : reducedFO (sh 5 (allF x y b)) = true := red_at (x := subFO x y) (by rw [subFO_eq]; exact (sub_i hx hy).2) (fiv rfl rfl rfl rfl rfl)
  have r2 : reducedFO (sh 10 (allF x y b)) = true := red_at (x := mulFO x y) (by rw [mulFO_eq]; exact (mul_i hx hy).2) (fiv rfl rfl rfl rfl rfl)
  have r3 : reducedFO (sh 15 (allF x y b)) = true := red_at (x := negFO x) (by rw [negFO_eq]; exact (neg_i hx).2) (fiv rfl rfl rfl rfl rfl)
  have r4 : reducedFO (sh 20 (allF x y b)) = true := red_at (x := squareFO x) (by rw [squareFO_eq]; exact (sq_i hx).2) (fiv rfl rfl rfl rfl rfl)
  have r5 : reducedFO (sh 25 (allF x y b)) = true := red_at (x := invertFO x) (by rw [invertFO_eq]; exact (inv_i hx).2) (fiv rfl rfl rfl rfl rfl)
  have r6 : reducedFO (sh 30 (allF x y b)) = true := red_at (x := powFO x b) (by rw [powFO_eq]; exact (pow_v hx hb).2) (fiv rfl rfl rfl rfl rfl)
  have r7 : reducedFO (sh 35 (allF x y b)) = true := red_at (x := fromBytesFO b) (by rw [fromBytesFO_eq]; exact (fromBytes_v hb).2) (fiv rfl rfl rfl rfl rfl)
  have r8 : reducedFO (sh 40 (allF x y b)) = true := red_at (x := smallFO (x 0)) (by rw [smallFO_eq]; exact (small_i _ x0.1 x0.2).2) (fiv rfl rfl rfl rfl rfl)
  have r9 : reducedFO (sh 45 (allF x y b)) = true := red_at (x := selectFO true x y) (by rw [selectFO_eq]; exact (select_i hx).2) (fiv rfl rfl rfl rfl rfl)
  have r10 : reducedFO (sh 50 (allF x y b)) = true := red_at (x := selectFO false x y) (by rw [selectFO_eq]; exact (select_i' hy).2) (fiv rfl rfl rfl rfl rfl)
  have r11 : reducedFO (sh 55 (allF x y b)) = true := red_at (x := (sqrtFO x y).1) (by rw [sqrtFO_eq]; exact (sqrt_v hx hy).1.2) (fiv rfl rfl rfl rfl rfl)
  have c1 : equalFO x y = eqN 32 (bytesFO x) (bytesFO y) := by
    rw [equalE (x := x) (y := y) ⟨hx, rfl⟩ ⟨hy, rfl⟩, vb_inj bx.1 by'.1, bx.2, by'.2]
    exact decide_eq_decide.2 k_val.symm
  have c2 : canonicalFO (bytesFO x) = true := by
    rw [canonicalE bx.1, bx.2]
    exact decide_eq_true (by have := (kk (v5 x)).isLt; unfold p; omega)
  have c3 : eqN 5 (fromBytesFO (bytesFO x)) (selectFO true x y) = true := by
    obtain ⟨f1, f2⟩ := fromBytes_v bx.1
    have s := select_i (y := y) hx
    rw [fromBytesFO_eq, selectFO_eq, eq5 f2 s.2, f1, s.1, bx.2]
    refine decide_eq_true ?_
    have h0 : (0 : Int) ≤ ((kk (v5 x)).val : Int) := by omega
    have hl : ((kk (v5 x)).val : Int) < p := by have := (kk (v5 x)).isLt; unfold p; omega
    rw [Int.emod_eq_of_lt h0 (ltL hl), Int.emod_eq_of_lt h0 hl, kk_val]
  have c4 : canonicalFO b = eqN 32 (bytesFO (fromBytesFO b)) b := by
    rw [canonicalFO_eq, bytesFO_eq, fromBytesFO_eq]; rfl
  have c5 : isOddFO x = (remI (bytesFO x 0) 2 == 1) := by
    have hb0 := bytes_v hx 0 (by omega)
    rw [isOddE (x := x) ⟨hx, rfl⟩, bytesFO_eq, hb0, ← kk_val]
    have e : (((kk (v5 x)).val : Nat) : Int) / 256 ^ 0 % 256 = (((kk (v5 x)).val % 256 : Nat) : Int) := by
      rw [Int.pow_zero, Int.ediv_one]; omega
    rw [e, show remI (((kk (v5 x)).val % 256 : Nat) : Int) 2 = (((kk (v5 x)).val % 256 % 2 : Nat) : Int) from rem_nat _ 2, Bool.eq_iff_iff, decide_eq_true_eq, beq_iff_eq]
    omega
  unfold lawReduced
  rw [r0, r1, r2, r3, r4, r5, r6, r7, r8, r9, r10, r11, c1, c2, c3, c4, c5, countsBO_eq, counts_true]
  simp
end Go.Proofs.Ytbnclikjbnfodaa
