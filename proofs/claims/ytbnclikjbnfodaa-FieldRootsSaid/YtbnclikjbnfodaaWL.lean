import Derived.Test.YtbnclikjbnfodaaWK
import Derived.Test.YtbnclikjbnfodaaRows
import Derived.Test.YtbnclikjbnfodaaMA
namespace Go.Proofs.Ytbnclikjbnfodaa
open Go.Ev
/-- A sum of products, one product more: the higher and the lower half. -/
def wadd (w : Int × Int) (a b : Int) : Int × Int := (aS w.1 (mul64 a b).1 (aC w.2 (mul64 a b).2 0), aS w.2 (mul64 a b).2 0)
/-- What a limb of the second comes to at a limb of the product. -/
def mB2 (b : Nat → Int) (k i : Nat) : Int := bif Nat.ble i k then b (k - i) else mulI .u64 19 (b (k + 5 - i))
/-- The sum at limb k, behind n limbs of the first. -/
def mW (a b : Nat → Int) (k : Nat) : Nat → Int × Int
  | 0 => (0, 0)
  | n + 1 => wadd (mW a b k n) (a n) (mB2 b k n)
/-- What goes over into limb k. -/
def mO (a b : Nat → Int) : Nat → Int
  | 0 => 0
  | k + 1 => orI .u64 (shlI .u64 (addI .u64 (mW a b k 5).1 (aC (mW a b k 5).2 (mO a b k) 0)) 13) (shrI .u64 (aS (mW a b k 5).2 (mO a b k) 0) 51)
def mL (a b : Nat → Int) (k : Nat) : Int := andI .u64 (aS (mW a b k 5).2 (mO a b k) 0) 2251799813685247
def mT (a b : Nat → Int) : Int × Int := wadd (0, 0) (mO a b 5) 19
def mP (a b : Nat → Int) : Nat → Int := reduceF (l5 (andI .u64 (aS (mT a b).2 (mL a b 0) 0) 2251799813685247) (addI .u64 (mL a b 1) (orI .u64 (shlI .u64 (addI .u64 (mT a b).1 (aC (mT a b).2 (mL a b 0) 0)) 13) (shrI .u64 (aS (mT a b).2 (mL a b 0) 0) 51))) (mL a b 2) (mL a b 3) (mL a b 4))
def mulF (x y : Nat → Int) : Nat → Int := mP (carryF x) (carryF y)
theorem and_nn (a b : Int) : 0 ≤ andI .u64 a b := by unfold andI bits2; rw [wrap_u64]; exact Int.emod_nonneg _ (by omega)
theorem or_nn (a b : Int) : 0 ≤ orI .u64 a b := by unfold orI bits2; rw [wrap_u64]; exact Int.emod_nonneg _ (by omega)
def WOK (w : Int × Int) : Prop := 0 ≤ w.1 ∧ 0 ≤ w.2 ∧ w.2 < 18446744073709551616
theorem w0_ok : WOK (0, 0) := ⟨by omega, by omega, by omega⟩
theorem mul64_ok (a b : Int) : WOK (mul64 a b) := by
  refine ⟨?_, ?_, ?_⟩
  · show 0 ≤ addI .u64 _ _
    rw [addU]; exact Int.emod_nonneg _ (by omega)
  · show 0 ≤ mulI .u64 _ _
    rw [mulU]; exact Int.emod_nonneg _ (by omega)
  · show mulI .u64 _ _ < _
    rw [mulU]; exact Int.emod_lt_of_pos _ (by omega)
theorem wadd_ok (w : Int × Int) {a b : Int} : WOK (wadd w a b) := by
  unfold WOK wadd aS
  dsimp only
  refine ⟨?_, ?_, ?_⟩ <;> omega
theorem mW_ok (a b : Nat → Int) (k n : Nat) : WOK (mW a b k n) := by
  cases n with
  | zero => exact w0_ok
  | succ n => exact wadd_ok _
theorem mO_nn (a b : Nat → Int) (k : Nat) : 0 ≤ mO a b k := by
  cases k with
  | zero => exact Int.le_refl _
  | succ k => exact or_nn _ _
theorem ook {x y : Int} (hx : 0 ≤ x) (hy : 0 ≤ y) : aOK x y 0 = true := by unfold aOK; simp; exact ⟨hx, hy⟩
theorem wok1 {w : Int × Int} {a b : Int} (h : WOK w) : aOK w.2 (mul64 a b).2 0 = true := ook h.2.1 (mul64_ok a b).2.1
theorem wok2 {w : Int × Int} {a b : Int} (h : WOK w) : aOK w.1 (mul64 a b).1 (aC w.2 (mul64 a b).2 0) = true := by
  obtain ⟨h1, h2, h3⟩ := h
  obtain ⟨m1, m2, m3⟩ := mul64_ok a b
  unfold aOK aC
  simp only [Bool.and_eq_true, decide_eq_true_eq]
  omega
attribute [local irreducible] mul64
theorem mulF_t (x y : Nat → Int) : awp Try.prog o82n G88 300 (body Try.f43) (ends Try.prog Try.f43 fun v _ => okV (V.ints .u64 5 (mulF x y)) v) ⟨[(V.ints .u64 5 x), (V.ints .u64 5 y)] ++ List.replicate 105 V.un, []⟩ = (gB (aOK (mW (carryF x) (carryF y) 0 0).2 (mul64 (carryF x 0) (mB2 (carryF y) 0 0)).2 0) (gB (aOK (mW (carryF x) (carryF y) 0 0).1 (mul64 (carryF x 0) (mB2 (carryF y) 0 0)).1 (aC (mW (carryF x) (carryF y) 0 0).2 (mul64 (carryF x 0) (mB2 (carryF y) 0 0)).2 0)) (gB (aOK (mW (carryF x) (carryF y) 1 0).2 (mul64 (carryF x 0) (mB2 (carryF y) 1 0)).2 0) (gB (aOK (mW (carryF x) (carryF y) 1 0).1 (mul64 (carryF x 0) (mB2 (carryF y) 1 0)).1 (aC (mW (carryF x) (carryF y) 1 0).2 (mul64 (carryF x 0) (mB2 (carryF y) 1 0)).2 0)) (gB (aOK (mW (carryF x) (carryF y) 2 0).2 (mul64 (carryF x 0) (mB2 (carryF y) 2 0)).2 0) (gB (aOK (mW (carryF x) (carryF y) 2 0).1 (mul64 (carryF x 0) (mB2 (carryF y) 2 0)).1 (aC (mW (carryF x) (carryF y) 2 0).2 (mul64 (carryF x 0) (mB2 (carryF y) 2 0)).2 0)) (gB (aOK (mW (carryF x) (carryF y) 3 0).2 (mul64 (carryF x 0) (mB2 (carryF y) 3 0)).2 0) (gB (aOK (mW (carryF x) (carryF y) 3 0).1 (mul64 (carryF x 0) (mB2 (carryF y) 3 0)).1 (aC (mW (carryF x) (carryF y) 3 0).2 (mul64 (carryF x 0) (mB2 (carryF y) 3 0)).2 0)) (gB (aOK (mW (carryF x) (carryF y) 4 0).2 (mul64 (carryF x 0) (mB2 (carryF y) 4 0)).2 0) (gB (aOK (mW (carryF x) (carryF y) 4 0).1 (mul64 (carryF x 0) (mB2 (carryF y) 4 0)).1 (aC (mW (carryF x) (carryF y) 4 0).2 (mul64 (carryF x 0) (mB2 (carryF y) 4 0)).2 0)) (gB (aOK (mW (carryF x) (carryF y) 1 1).2 (mul64 (carryF x 1) (mB2 (carryF y) 1 1)).2 0) (gB (aOK (mW (carryF x) (carryF y) 1 1).1 (mul64 (carryF x 1) (mB2 (carryF y) 1 1)).1 (aC (mW (carryF x) (carryF y) 1 1).2 (mul64 (carryF x 1) (mB2 (carryF y) 1 1)).2 0)) (gB (aOK (mW (carryF x) (carryF y) 2 1).2 (mul64 (carryF x 1) (mB2 (carryF y) 2 1)).2 0) (gB (aOK (mW (carryF x) (carryF y) 2 1).1 (mul64 (carryF x 1) (mB2 (carryF y) 2 1)).1 (aC (mW (carryF x) (carryF y) 2 1).2 (mul64 (carryF x 1) (mB2 (carryF y) 2 1)).2 0)) (gB (aOK (mW (carryF x) (carryF y) 3 1).2 (mul64 (carryF x 1) (mB2 (carryF y) 3 1)).2 0) (gB (aOK (mW (carryF x) (carryF y) 3 1).1 (mul64 (carryF x 1) (mB2 (carryF y) 3 1)).1 (aC (mW (carryF x) (carryF y) 3 1).2 (mul64 (carryF x 1) (mB2 (carryF y) 3 1)).2 0)) (gB (aOK (mW (carryF x) (carryF y) 4 1).2 (mul64 (carryF x 1) (mB2 (carryF y) 4 1)).2 0) (gB (aOK (mW (carryF x) (carryF y) 4 1).1 (mul64 (carryF x 1) (mB2 (carryF y) 4 1)).1 (aC (mW (carryF x) (carryF y) 4 1).2 (mul64 (carryF x 1) (mB2 (carryF y) 4 1)).2 0)) (gB (aOK (mW (carryF x) (carryF y) 0 1).2 (mul64 (carryF x 1) (mB2 (carryF y) 0 1)).2 0) (gB (aOK (mW (carryF x) (carryF y) 0 1).1 (mul64 (carryF x 1) (mB2 (carryF y) 0 1)).1 (aC (mW (carryF x) (carryF y) 0 1).2 (mul64 (carryF x 1) (mB2 (carryF y) 0 1)).2 0)) (gB (aOK (mW (carryF x) (carryF y) 2 2).2 (mul64 (carryF x 2) (mB2 (carryF y) 2 2)).2 0) (gB (aOK (mW (carryF x) (carryF y) 2 2).1 (mul64 (carryF x 2) (mB2 (carryF y) 2 2)).1 (aC (mW (carryF x) (carryF y) 2 2).2 (mul64 (carryF x 2) (mB2 (carryF y) 2 2)).2 0)) (gB (aOK (mW (carryF x) (carryF y) 3 2).2 (mul64 (carryF x 2) (mB2 (carryF y) 3 2)).2 0) (gB (aOK (mW (carryF x) (carryF y) 3 2).1 (mul64 (carryF x 2) (mB2 (carryF y) 3 2)).1 (aC (mW (carryF x) (carryF y) 3 2).2 (mul64 (carryF x 2) (mB2 (carryF y) 3 2)).2 0)) (gB (aOK (mW (carryF x) (carryF y) 4 2).2 (mul64 (carryF x 2) (mB2 (carryF y) 4 2)).2 0) (gB (aOK (mW (carryF x) (carryF y) 4 2).1 (mul64 (carryF x 2) (mB2 (carryF y) 4 2)).1 (aC (mW (carryF x) (carryF y) 4 2).2 (mul64 (carryF x 2) (mB2 (carryF y) 4 2)).2 0)) (gB (aOK (mW (carryF x) (carryF y) 0 2).2 (mul64 (carryF x 2) (mB2 (carryF y) 0 2)).2 0) (gB (aOK (mW (carryF x) (carryF y) 0 2).1 (mul64 (carryF x 2) (mB2 (carryF y) 0 2)).1 (aC (mW (carryF x) (carryF y) 0 2).2 (mul64 (carryF x 2) (mB2 (carryF y) 0 2)).2 0)) (gB (aOK (mW (carryF x) (carryF y) 1 2).2 (mul64 (carryF x 2) (mB2 (carryF y) 1 2)).2 0) (gB (aOK (mW (carryF x) (carryF y) 1 2).1 (mul64 (carryF x 2) (mB2 (carryF y) 1 2)).1 (aC (mW (carryF x) (carryF y) 1 2).2 (mul64 (carryF x 2) (mB2 (carryF y) 1 2)).2 0)) (gB (aOK (mW (carryF x) (carryF y) 3 3).2 (mul64 (carryF x 3) (mB2 (carryF y) 3 3)).2 0) (gB (aOK (mW (carryF x) (carryF y) 3 3).1 (mul64 (carryF x 3) (mB2 (carryF y) 3 3)).1 (aC (mW (carryF x) (carryF y) 3 3).2 (mul64 (carryF x 3) (mB2 (carryF y) 3 3)).2 0)) (gB (aOK (mW (carryF x) (carryF y) 4 3).2 (mul64 (carryF x 3) (mB2 (carryF y) 4 3)).2 0) (gB (aOK (mW (carryF x) (carryF y) 4 3).1 (mul64 (carryF x 3) (mB2 (carryF y) 4 3)).1 (aC (mW (carryF x) (carryF y) 4 3).2 (mul64 (carryF x 3) (mB2 (carryF y) 4 3)).2 0)) (gB (aOK (mW (carryF x) (carryF y) 0 3).2 (mul64 (carryF x 3) (mB2 (carryF y) 0 3)).2 0) (gB (aOK (mW (carryF x) (carryF y) 0 3).1 (mul64 (carryF x 3) (mB2 (carryF y) 0 3)).1 (aC (mW (carryF x) (carryF y) 0 3).2 (mul64 (carryF x 3) (mB2 (carryF y) 0 3)).2 0)) (gB (aOK (mW (carryF x) (carryF y) 1 3).2 (mul64 (carryF x 3) (mB2 (carryF y) 1 3)).2 0) (gB (aOK (mW (carryF x) (carryF y) 1 3).1 (mul64 (carryF x 3) (mB2 (carryF y) 1 3)).1 (aC (mW (carryF x) (carryF y) 1 3).2 (mul64 (carryF x 3) (mB2 (carryF y) 1 3)).2 0)) (gB (aOK (mW (carryF x) (carryF y) 2 3).2 (mul64 (carryF x 3) (mB2 (carryF y) 2 3)).2 0) (gB (aOK (mW (carryF x) (carryF y) 2 3).1 (mul64 (carryF x 3) (mB2 (carryF y) 2 3)).1 (aC (mW (carryF x) (carryF y) 2 3).2 (mul64 (carryF x 3) (mB2 (carryF y) 2 3)).2 0)) (gB (aOK (mW (carryF x) (carryF y) 4 4).2 (mul64 (carryF x 4) (mB2 (carryF y) 4 4)).2 0) (gB (aOK (mW (carryF x) (carryF y) 4 4).1 (mul64 (carryF x 4) (mB2 (carryF y) 4 4)).1 (aC (mW (carryF x) (carryF y) 4 4).2 (mul64 (carryF x 4) (mB2 (carryF y) 4 4)).2 0)) (gB (aOK (mW (carryF x) (carryF y) 0 4).2 (mul64 (carryF x 4) (mB2 (carryF y) 0 4)).2 0) (gB (aOK (mW (carryF x) (carryF y) 0 4).1 (mul64 (carryF x 4) (mB2 (carryF y) 0 4)).1 (aC (mW (carryF x) (carryF y) 0 4).2 (mul64 (carryF x 4) (mB2 (carryF y) 0 4)).2 0)) (gB (aOK (mW (carryF x) (carryF y) 1 4).2 (mul64 (carryF x 4) (mB2 (carryF y) 1 4)).2 0) (gB (aOK (mW (carryF x) (carryF y) 1 4).1 (mul64 (carryF x 4) (mB2 (carryF y) 1 4)).1 (aC (mW (carryF x) (carryF y) 1 4).2 (mul64 (carryF x 4) (mB2 (carryF y) 1 4)).2 0)) (gB (aOK (mW (carryF x) (carryF y) 2 4).2 (mul64 (carryF x 4) (mB2 (carryF y) 2 4)).2 0) (gB (aOK (mW (carryF x) (carryF y) 2 4).1 (mul64 (carryF x 4) (mB2 (carryF y) 2 4)).1 (aC (mW (carryF x) (carryF y) 2 4).2 (mul64 (carryF x 4) (mB2 (carryF y) 2 4)).2 0)) (gB (aOK (mW (carryF x) (carryF y) 3 4).2 (mul64 (carryF x 4) (mB2 (carryF y) 3 4)).2 0) (gB (aOK (mW (carryF x) (carryF y) 3 4).1 (mul64 (carryF x 4) (mB2 (carryF y) 3 4)).1 (aC (mW (carryF x) (carryF y) 3 4).2 (mul64 (carryF x 4) (mB2 (carryF y) 3 4)).2 0)) (gB (aOK (mW (carryF x) (carryF y) 0 5).2 (mO (carryF x) (carryF y) 0) 0) (gB (aOK (mW (carryF x) (carryF y) 1 5).2 (mO (carryF x) (carryF y) 1) 0) (gB (aOK (mW (carryF x) (carryF y) 2 5).2 (mO (carryF x) (carryF y) 2) 0) (gB (aOK (mW (carryF x) (carryF y) 3 5).2 (mO (carryF x) (carryF y) 3) 0) (gB (aOK (mW (carryF x) (carryF y) 4 5).2 (mO (carryF x) (carryF y) 4) 0) (gB (aOK ((0, 0) : Int × Int).2 (mul64 (mO (carryF x) (carryF y) 5) 19).2 0) (gB (aOK ((0, 0) : Int × Int).1 (mul64 (mO (carryF x) (carryF y) 5) 19).1 (aC ((0, 0) : Int × Int).2 (mul64 (mO (carryF x) (carryF y) 5) 19).2 0)) (gB (aOK (mT (carryF x) (carryF y)).2 (mL (carryF x) (carryF y) 0) 0) ((V.ints .u64 5 (mulF x y)).den z0 = (V.ints .u64 5 (mulF x y)).den z0))))))))))))))))))))))))))))))))))))))))))))))))))))))))))) := by kernel_rfl
theorem mulF_a (x y : Nat → Int) : awp Try.prog o82n G88 300 (body Try.f43) (ends Try.prog Try.f43 fun v _ => okV (V.ints .u64 5 (mulF x y)) v) ⟨[(V.ints .u64 5 x), (V.ints .u64 5 y)] ++ List.replicate 105 V.un, []⟩ := by
  rw [mulF_t]
  refine gm (wok1 (mW_ok _ _ _ _)) ?_
  refine gm (wok2 (mW_ok _ _ _ _)) ?_
  refine gm (wok1 (mW_ok _ _ _ _)) ?_
  refine gm (wok2 (mW_ok _ _ _ _)) ?_
  refine gm (wok1 (mW_ok _ _ _ _)) ?_
  refine gm (wok2 (mW_ok _ _ _ _)) ?_
  refine gm (wok1 (mW_ok _ _ _ _)) ?_
  refine gm (wok2 (mW_ok _ _ _ _)) ?_
  refine gm (wok1 (mW_ok _ _ _ _)) ?_
  refine gm (wok2 (mW_ok _ _ _ _)) ?_
  refine gm (wok1 (mW_ok _ _ _ _)) ?_
  refine gm (wok2 (mW_ok _ _ _ _)) ?_
  refine gm (wok1 (mW_ok _ _ _ _)) ?_
  refine gm (wok2 (mW_ok _ _ _ _)) ?_
  refine gm (wok1 (mW_ok _ _ _ _)) ?_
  refine gm (wok2 (mW_ok _ _ _ _)) ?_
  refine gm (wok1 (mW_ok _ _ _ _)) ?_
  refine gm (wok2 (mW_ok _ _ _ _)) ?_
  refine gm (wok1 (mW_ok _ _ _ _)) ?_
  refine gm (wok2 (mW_ok _ _ _ _)) ?_
  refine gm (wok1 (mW_ok _ _ _ _)) ?_
  refine gm (wok2 (mW_ok _ _ _ _)) ?_
  refine gm (wok1 (mW_ok _ _ _ _)) ?_
  refine gm (wok2 (mW_ok _ _ _ _)) ?_
  refine gm (wok1 (mW_ok _ _ _ _)) ?_
  refine gm (wok2 (mW_ok _ _ _ _)) ?_
  refine gm (wok1 (mW_ok _ _ _ _)) ?_
  refine gm (wok2 (mW_ok _ _ _ _)) ?_
  refine gm (wok1 (mW_ok _ _ _ _)) ?_
  refine gm (wok2 (mW_ok _ _ _ _)) ?_
  refine gm (wok1 (mW_ok _ _ _ _)) ?_
  refine gm (wok2 (mW_ok _ _ _ _)) ?_
  refine gm (wok1 (mW_ok _ _ _ _)) ?_
  refine gm (wok2 (mW_ok _ _ _ _)) ?_
  refine gm (wok1 (mW_ok _ _ _ _)) ?_
  refine gm (wok2 (mW_ok _ _ _ _)) ?_
  refine gm (wok1 (mW_ok _ _ _ _)) ?_
  refine gm (wok2 (mW_ok _ _ _ _)) ?_
  refine gm (wok1 (mW_ok _ _ _ _)) ?_
  refine gm (wok2 (mW_ok _ _ _ _)) ?_
  refine gm (wok1 (mW_ok _ _ _ _)) ?_
  refine gm (wok2 (mW_ok _ _ _ _)) ?_
  refine gm (wok1 (mW_ok _ _ _ _)) ?_
  refine gm (wok2 (mW_ok _ _ _ _)) ?_
  refine gm (wok1 (mW_ok _ _ _ _)) ?_
  refine gm (wok2 (mW_ok _ _ _ _)) ?_
  refine gm (wok1 (mW_ok _ _ _ _)) ?_
  refine gm (wok2 (mW_ok _ _ _ _)) ?_
  refine gm (wok1 (mW_ok _ _ _ _)) ?_
  refine gm (wok2 (mW_ok _ _ _ _)) ?_
  refine gm (ook (mW_ok _ _ _ _).2.1 (mO_nn _ _ _)) ?_
  refine gm (ook (mW_ok _ _ _ _).2.1 (mO_nn _ _ _)) ?_
  refine gm (ook (mW_ok _ _ _ _).2.1 (mO_nn _ _ _)) ?_
  refine gm (ook (mW_ok _ _ _ _).2.1 (mO_nn _ _ _)) ?_
  refine gm (ook (mW_ok _ _ _ _).2.1 (mO_nn _ _ _)) ?_
  refine gm (wok1 w0_ok) ?_
  refine gm (wok2 w0_ok) ?_
  refine gm (ook (wadd_ok _).2.1 (and_nn _ _)) ?_
  rfl
def g43 : List V → Option (Bool × V) := fun | [.ints .u64 5 x, .ints .u64 5 y] => some (true, (V.ints .u64 5 (mulF x y))) | _ => none
theorem mulF_p (x : (Nat → Int)) (y : (Nat → Int)) : (∀ μ μ', V.den μ' (V.ints .u64 5 (mulF x y)) = V.den μ (V.ints .u64 5 (mulF x y))) ∧ ∀ μ w, PureAt Try.prog 43 (([(V.ints .u64 5 x), (V.ints .u64 5 y)] : List V).map (V.den μ)).toArray (V.den μ (V.ints .u64 5 (mulF x y))) w :=
  pure_ok (F := o82n) (N := 300) (fn := Try.f43) (args := [(V.ints .u64 5 x), (V.ints .u64 5 y)]) (r := (V.ints .u64 5 (mulF x y))) (n := 105) hM o82n_ok G88_ok Try.func43 (by kernel_rfl) (by kernel_rfl) (by kernel_rfl) (by kernel_rfl) (mulF_a x y) (by kernel_rfl)
theorem g43_ok (vs : List V) (v : V) (h : g43 vs = some (true, v)) : (∀ μ μ', v.den μ' = v.den μ) ∧ ∀ μ w, PureAt Try.prog 43 (vs.map (V.den μ)).toArray (v.den μ) w := by
  unfold g43 at h
  split at h
  · simp only [Option.some.injEq, Prod.mk.injEq, true_and] at h
    subst h
    exact mulF_p _ _
  · simp at h
def o43 : Orc := ext 43 g43 o82n
theorem o43_ok : OrcOK Try.prog o43 := ext_ok o82n_ok g43_ok
end Go.Proofs.Ytbnclikjbnfodaa
