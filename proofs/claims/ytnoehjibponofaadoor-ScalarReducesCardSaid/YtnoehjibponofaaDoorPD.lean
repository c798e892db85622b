/-
  Numbers of four words, as numbers; the order taken away until the number is below it. Conditions: none.
-/
import Derived.Test.YtnoehjibponofaaDoorPC
namespace Go.Proofs.YtnoehjibponofaaDoor
open Go.Ev
def lv4 (f : Nat → Int) : Int := f 0 + 18446744073709551616 * f 1 + 340282366920938463463374607431768211456 * f 2 + 6277101735386680763835789423207666416102355444464034512896 * f 3
theorem aw {x y c : Int} (hx : 0 ≤ x) (hy : 0 ≤ y) (hc : 0 ≤ c) : aS x y c + 18446744073709551616 * aC x y c = x + y + c ∧ 0 ≤ aS x y c ∧ aS x y c < 18446744073709551616 ∧ 0 ≤ aC x y c := by
  unfold aS aC; omega
theorem sw1 {x y c : Int} (hx : 0 ≤ x) (hx1 : x < 18446744073709551616) (hy : 0 ≤ y) (hy1 : y < 18446744073709551616) (hc : 0 ≤ c) (hc1 : c.toNat ≤ 1) : sD x y c = x - y - c + 18446744073709551616 * sB x y c ∧ 0 ≤ sD x y c ∧ sD x y c < 18446744073709551616 ∧ 0 ≤ sB x y c := by
  unfold sD sB; split <;> omega
theorem pc_nn (x y : Nat → Int) : ∀ k, 0 ≤ pc x y k
  | 0 => by simp [pc]
  | k + 1 => by simp only [pc, aC]; omega
theorem bc_nn (x y : Nat → Int) : ∀ k, 0 ≤ bc x y k
  | 0 => by simp [bc]
  | k + 1 => by simp only [bc, sB]; omega
theorem plus_v {x y : Nat → Int} (hx : u4 x = true) (hy : u4 y = true) : lv4 (plusF x y) + 115792089237316195423570985008687907853269984665640564039457584007913129639936 * pc x y 4 = lv4 x + lv4 y ∧ u4 (plusF x y) = true := by
  have X := u4_at hx; have Y := u4_at hy
  have h : ∀ k, k < 4 → plusF x y k + 18446744073709551616 * pc x y (k + 1) = x k + y k + pc x y k ∧ 0 ≤ plusF x y k ∧ plusF x y k < 18446744073709551616 ∧ 0 ≤ pc x y (k + 1) :=
    fun k hk => aw (X k hk).1 (Y k hk).1 (pc_nn x y k)
  refine ⟨?_, u4_mk fun j hj => ⟨(h j hj).2.1, (h j hj).2.2.1⟩⟩
  obtain ⟨h0, -⟩ := h 0 (by omega); obtain ⟨h1, -⟩ := h 1 (by omega); obtain ⟨h2, -⟩ := h 2 (by omega); obtain ⟨h3, -⟩ := h 3 (by omega)
  have z : pc x y 0 = 0 := rfl
  simp only [Nat.zero_add, Nat.reduceAdd] at h0 h1 h2 h3
  unfold lv4
  generalize plusF x y = p at *
  generalize pc x y = c at *
  omega
theorem minus_v {x y : Nat → Int} (hx : u4 x = true) (hy : u4 y = true) : lv4 (minusF x y) = lv4 x - lv4 y + 115792089237316195423570985008687907853269984665640564039457584007913129639936 * bc x y 4 ∧ u4 (minusF x y) = true := by
  have X := u4_at hx; have Y := u4_at hy
  have h : ∀ k, k < 4 → minusF x y k = x k - y k - bc x y k + 18446744073709551616 * bc x y (k + 1) ∧ 0 ≤ minusF x y k ∧ minusF x y k < 18446744073709551616 ∧ 0 ≤ bc x y (k + 1) :=
    fun k hk => sw1 (X k hk).1 (X k hk).2 (Y k hk).1 (Y k hk).2 (bc_nn x y k) (bc_le k)
  refine ⟨?_, u4_mk fun j hj => ⟨(h j hj).2.1, (h j hj).2.2.1⟩⟩
  obtain ⟨h0, -⟩ := h 0 (by omega); obtain ⟨h1, -⟩ := h 1 (by omega); obtain ⟨h2, -⟩ := h 2 (by omega); obtain ⟨h3, -⟩ := h 3 (by omega)
  have z : bc x y 0 = 0 := rfl
  simp only [Nat.zero_add, Nat.reduceAdd] at h0 h1 h2 h3
  unfold lv4
  generalize minusF x y = p at *
  generalize bc x y = c at *
  omega
theorem lv4_nn {x : Nat → Int} (hx : u4 x = true) : 0 ≤ lv4 x ∧ lv4 x < 115792089237316195423570985008687907853269984665640564039457584007913129639936 := by
  have X := u4_at hx
  have h0 := X 0 (by omega); have h1 := X 1 (by omega); have h2 := X 2 (by omega); have h3 := X 3 (by omega)
  unfold lv4
  generalize x 0 = a at *; generalize x 1 = b at *; generalize x 2 = c at *; generalize x 3 = d at *
  omega
theorem bc4_01 (x y : Nat → Int) : bc x y 4 = 0 ∨ bc x y 4 = 1 := by
  have h1 := bc_nn x y 4; have h2 := bc_le (x := x) (y := y) 4
  omega
theorem minus_ge {x y : Nat → Int} (hx : u4 x = true) (hy : u4 y = true) (h : lv4 y ≤ lv4 x) : lv4 (minusF x y) = lv4 x - lv4 y ∧ bc x y 4 = 0 := by
  obtain ⟨h1, h2⟩ := minus_v hx hy
  have h3 := lv4_nn h2; have h4 := lv4_nn hx; have h5 := lv4_nn hy
  rcases bc4_01 x y with h6 | h6 <;> rw [h6] at h1 <;> omega
theorem minus_lt {x y : Nat → Int} (hx : u4 x = true) (hy : u4 y = true) (h : lv4 x < lv4 y) : bc x y 4 = 1 := by
  obtain ⟨h1, h2⟩ := minus_v hx hy
  have h3 := lv4_nn h2; have h4 := lv4_nn hx; have h5 := lv4_nn hy
  rcases bc4_01 x y with h6 | h6 <;> rw [h6] at h1 <;> omega
/-- Is the one below the other? From the highest word down. -/
def lessB (a o : Nat → Int) : Bool := (cond (decide (a 3 < o 3)) true (cond (decide (a 3 > o 3)) false (cond (decide (a 2 < o 2)) true (cond (decide (a 2 > o 2)) false (cond (decide (a 1 < o 1)) true (cond (decide (a 1 > o 1)) false (cond (decide (a 0 < o 0)) true (cond (decide (a 0 > o 0)) false false))))))))
theorem lessB_iff {a o : Nat → Int} (ha : u4 a = true) (ho : u4 o = true) : lessB a o = true ↔ lv4 a < lv4 o := by
  have A := u4_at ha; have O := u4_at ho
  have a0 := A 0 (by omega); have a1 := A 1 (by omega); have a2 := A 2 (by omega); have a3 := A 3 (by omega)
  have o0 := O 0 (by omega); have o1 := O 1 (by omega); have o2 := O 2 (by omega); have o3 := O 3 (by omega)
  unfold lessB lv4
  generalize a 0 = x0 at *; generalize a 1 = x1 at *; generalize a 2 = x2 at *; generalize a 3 = x3 at *
  generalize o 0 = y0 at *; generalize o 1 = y1 at *; generalize o 2 = y2 at *; generalize o 3 = y3 at *
  clear A O ha ho
  by_cases h3 : x3 < y3
  · simp only [h3, decide_true, cond_true]; exact ⟨fun _ => by omega, fun _ => trivial⟩
  by_cases g3 : x3 > y3
  · simp only [h3, g3, decide_true, decide_false, cond_true, cond_false]; constructor
    · intro h; cases h
    · intro h; omega
  by_cases h2 : x2 < y2
  · simp only [h3, g3, h2, decide_true, decide_false, cond_true, cond_false]; exact ⟨fun _ => by omega, fun _ => trivial⟩
  by_cases g2 : x2 > y2
  · simp only [h3, g3, h2, g2, decide_true, decide_false, cond_true, cond_false]; constructor
    · intro h; cases h
    · intro h; omega
  by_cases h1 : x1 < y1
  · simp only [h3, g3, h2, g2, h1, decide_true, decide_false, cond_true, cond_false]; exact ⟨fun _ => by omega, fun _ => trivial⟩
  by_cases g1 : x1 > y1
  · simp only [h3, g3, h2, g2, h1, g1, decide_true, decide_false, cond_true, cond_false]; constructor
    · intro h; cases h
    · intro h; omega
  by_cases h0 : x0 < y0
  · simp only [h3, g3, h2, g2, h1, g1, h0, decide_true, decide_false, cond_true, cond_false]; exact ⟨fun _ => by omega, fun _ => trivial⟩
  by_cases g0 : x0 > y0
  · simp only [h3, g3, h2, g2, h1, g1, h0, g0, decide_true, decide_false, cond_true, cond_false]; constructor
    · intro h; cases h
    · intro h; omega
  · simp only [h3, g3, h2, g2, h1, g1, h0, g0, decide_false, cond_false]; constructor
    · intro h; cases h
    · intro h; omega
def belowR (o : Nat → Int) : Nat → (Nat → Int) → Nat → Int
  | 0, a => a
  | n + 1, a => cond (lessB a o) a (belowR o n (minusF a o))
def fin (o : Nat → Int) : Nat → (Nat → Int) → Bool
  | 0, _ => false
  | n + 1, a => cond (lessB a o) true (fin o n (minusF a o))
theorem below_v {o : Nat → Int} (ho : u4 o = true) (hp : 0 < lv4 o) : ∀ (n : Nat) (a : Nat → Int), u4 a = true → lv4 a < (n : Int) * lv4 o → u4 (belowR o n a) = true ∧ lv4 (belowR o n a) = lv4 a % lv4 o ∧ fin o n a = true
  | 0, a, ha, h => by
    have := (lv4_nn ha).1
    omega
  | n + 1, a, ha, h => by
    cases hl : lessB a o with
    | true =>
      have h1 := (lessB_iff ha ho).1 hl
      simp only [belowR, fin, hl, cond_true]
      exact ⟨ha, (Int.emod_eq_of_lt (lv4_nn ha).1 h1).symm, trivial⟩
    | false =>
      have h1 : ¬ lv4 a < lv4 o := fun h => by rw [(lessB_iff ha ho).2 h] at hl; cases hl
      obtain ⟨h2, _⟩ := minus_ge ha ho (by omega)
      have h3 := (minus_v ha ho).2
      have h4 : lv4 (minusF a o) < (n : Int) * lv4 o := by
        rw [h2]
        have e : ((n + 1 : Nat) : Int) * lv4 o = (n : Int) * lv4 o + lv4 o := by rw [Int.natCast_add, Int.add_mul]; simp
        rw [e] at h
        omega
      obtain ⟨h5, h6, h7⟩ := below_v ho hp n _ h3 h4
      simp only [belowR, fin, hl, cond_false]
      refine ⟨h5, ?_, h7⟩
      rw [h6, h2]
      exact Int.sub_emod_right _ _
end Go.Proofs.YtnoehjibponofaaDoor
