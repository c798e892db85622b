/-
  CurveOrder answers true. Conditions: none.
-/
import Derived.Test.YtbnclikjbnfodaaMOrder
import Derived.Test.YtbnclikjbnfodaaWOrder
namespace Go.Proofs.Ytbnclikjbnfodaa
set_option maxRecDepth 100000
open Go.Ev Go.Num

theorem smu_less {m n : Nat} {A : Pn} (hm : smu m A = .zero) (h : smu (m + n) A = .zero) : smu n A = .zero := by
  rw [smu_add, hm, zero_add'] at h
  exact h
theorem Bp_ne : Bp ≠ .zero := fun h => by
  have hx : Bp.x = Pn.zero.x := by rw [h]
  revert hx
  show kk _ ≠ 0
  rw [Ne, kk_z]; decide
theorem eight_ne : smu 8 Bp ≠ .zero := fun h8 => by
  have hL := order
  rw [show Lnum = Lnum / 8 * 8 + 5 by decide] at hL
  have h5 : smu 5 Bp = .zero := smu_less (by rw [smu_mul, h8, smu_zero]) hL
  have h3 : smu 3 Bp = .zero := smu_less (m := 5) (n := 3) h5 h8
  have h2 : smu 2 Bp = .zero := smu_less (m := 3) (n := 2) h3 h5
  have h1 : smu 1 Bp = .zero := smu_less (m := 2) (n := 1) h2 h3
  rw [smu_one] at h1
  exact Bp_ne h1
theorem smu_pred : smu (Lnum - 1) Bp = Bp.neg := by
  have h := order
  rw [show Lnum = Lnum - 1 + 1 by decide, smu_succ] at h
  have h2 : ((smu (Lnum - 1) Bp).add Bp).add Bp.neg = Bp.neg := by rw [h, zero_add']
  rwa [add_assoc', add_neg', add_zero'] at h2
theorem order_true : lawOrder = true := by
  obtain ⟨fx, fy⟩ := flatE baseP_fm
  unfold lawOrder
  have c1 : equalFO (mulFO (flatPO basePO).2 (smallFO 5)) (smallFO 4) = true := by
    rw [equalE (mulE2 fy (smallE 5 (by omega) (by omega))) (smallE 4 (by omega) (by omega))]
    refine decide_eq_true ?_
    show kk _ * kk 5 = kk 4
    rw [← kk_mul, kk_iff]; decide
  have c2 : isOddFO (flatPO basePO).1 = false := by
    rw [isOddE fx]
    refine decide_eq_false ?_
    show ¬ (kk _).val % 2 = 1
    decide
  have c3 : smallPO basePO = false := Bool.eq_false_iff.2 fun h => eight_ne ((small_iff baseP_fm).1 h)
  generalize hl : (up 31 16 (up 15 20 (up 14 222 (up 13 249 (up 12 222 (up 11 162 (up 10 247 (up 9 156 (up 8 214 (up 7 88 (up 6 18 (up 5 99 (up 4 26 (up 3 92 (up 2 245 (up 1 211 (up 0 237 (fun _ => 0))))))))))))))))) : Nat → Int) = l
  have bl : B32 l := by rw [← hl]; unfold B32; decide
  have bl2 : B32 (up 0 236 l) := by rw [← hl]; unfold B32; decide
  have vl : (vb l).toNat = Lnum := by rw [← hl]; decide
  have vl2 : (vb (up 0 236 l)).toNat = Lnum - 1 := by rw [← hl]; decide
  have c4 : equalPO (mulBasePO l) zeroPO = true := by
    rw [equalP_iff (mulBase_fm bl) zeroP_fm, vl]; exact order
  have c5 : equalPO (mulPO (up 0 236 l) basePO) (negPO basePO) = true := by
    rw [equalP_iff (mulP_fm bl2 baseP_fm) (negP_fm baseP_fm), vl2]; exact smu_pred
  rw [lives_true, c1, c2, c3, c4, c5]
  rfl
end Go.Proofs.Ytbnclikjbnfodaa
