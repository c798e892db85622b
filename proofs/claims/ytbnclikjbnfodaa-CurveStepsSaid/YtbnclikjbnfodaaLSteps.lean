/-
  CurveSteps answers true. Conditions: none.
-/
import Derived.Test.YtbnclikjbnfodaaZ19
import Derived.Test.YtbnclikjbnfodaaWCT
namespace Go.Proofs.Ytbnclikjbnfodaa
set_option maxRecDepth 100000
open Go.Ev Go.Num

theorem itA_fm {q : Nat → Int} {A : Pn} (hq : Fm q A) : ∀ k, Fm (itA q k) (smu k A)
  | 0 => zeroP_fm
  | k + 1 => addP_fm (itA_fm hq k) hq
theorem two_bytes {x y : Int} (hx : 0 ≤ x ∧ x < 256) (hy : 0 ≤ y ∧ y < 256) : B32 (up 1 y (up 0 x (fun _ => 0))) ∧ vb (up 1 y (up 0 x (fun _ => 0))) = x + 256 * y := by
  refine ⟨fun j hj => ?_, ?_⟩
  · rw [up_at, up_at]
    split
    · exact hy
    · split
      · exact hx
      · omega
  · unfold vb
    rw [show (32 : Nat) = 2 + 30 from rfl, dv_split, dv_tail0 (f := fun i => up 1 y (up 0 x (fun _ => 0)) (2 + i)) 30 (fun j _ => by
      show up 1 y (up 0 x (fun _ => 0)) (2 + j) = 0
      rw [up_at, if_neg (by omega), up_at, if_neg (by omega)]), Int.mul_zero, Int.add_zero]
    show x + 256 * (y + 256 * 0) = _
    omega
theorem steps_true {key : Nat → Int} {n : Int} (hk : B32 key) : lawSteps key n = true := by
  obtain ⟨A, hA⟩ := pointE hk
  unfold lawSteps
  rw [lives_true]
  by_cases h1 : n < 0
  · rw [decide_eq_true h1]; rfl
  · rw [decide_eq_false h1, cond_false]
    by_cases h2 : n > 300
    · rw [decide_eq_true h2]; rfl
    · rw [decide_eq_false h2, cond_false, Bool.not_true, cond_false]
      obtain ⟨c, rfl⟩ := Int.eq_ofNat_of_zero_le (Int.not_lt.1 h1)
      have hq : quoI .i64 (c : Int) 256 = ((c / 256 : Nat) : Int) := quo_nat c 256 (by omega)
      have hr : remI (c : Int) 256 = ((c % 256 : Nat) : Int) := rem_nat c 256
      rw [hq, hr, wrap_u8' (a := ((c / 256 : Nat) : Int)) (by omega), wrap_u8' (a := ((c % 256 : Nat) : Int)) (by omega)]
      obtain ⟨b1, b2⟩ := two_bytes (x := ((c % 256 : Nat) : Int)) (y := ((c / 256 : Nat) : Int)) (by omega) (by omega)
      have hv : (vb (up 1 ((c / 256 : Nat) : Int) (up 0 ((c % 256 : Nat) : Int) (fun _ => 0)))).toNat = c := by rw [b2]; omega
      have e1 : equalPO (mulPO (up 1 ((c / 256 : Nat) : Int) (up 0 ((c % 256 : Nat) : Int) (fun _ => 0))) (pointPO key)) (itA (pointPO key) (c : Int).toNat) = true := by
        rw [equalP_iff (mulP_fm b1 hA) (itA_fm hA _), hv, Int.toNat_natCast]
      have e2 : smallPO (pointPO key) = equalPO (itA (pointPO key) 8) zeroPO := by
        rw [Bool.eq_iff_iff, small_iff hA, equalP_iff (itA_fm hA 8) zeroP_fm]
      rw [e1, cond_true, e2]
      simp
end Go.Proofs.Ytbnclikjbnfodaa
