import Derived.Test.YtbnclikjbnfodaaWG
import Derived.Test.YtbnclikjbnfodaaRows
import Derived.Laws.Externs
namespace Go.Proofs.Ytbnclikjbnfodaa
open Go.Ev
/- math/bits.Mul64 -/
def mul64 (x : Int) (y : Int) : (Int × Int) := ((addI .u64 (addI .u64 (mulI .u64 (shrI .u64 x 32) (shrI .u64 y 32)) (shrI .u64 (addI .u64 (mulI .u64 (shrI .u64 x 32) (andI .u64 y 4294967295)) (shrI .u64 (mulI .u64 (andI .u64 x 4294967295) (andI .u64 y 4294967295)) 32)) 32)) (shrI .u64 (addI .u64 (andI .u64 (addI .u64 (mulI .u64 (shrI .u64 x 32) (andI .u64 y 4294967295)) (shrI .u64 (mulI .u64 (andI .u64 x 4294967295) (andI .u64 y 4294967295)) 32)) 4294967295) (mulI .u64 (andI .u64 x 4294967295) (shrI .u64 y 32))) 32)), (mulI .u64 x y))
theorem mul64_t (x : Int) (y : Int) : awp Try.prog o27 noG 300 (body Try.f119) (ends Try.prog Try.f119 fun v _ => okV (V.tup [(V.int .u64 (mul64 x y).1), (V.int .u64 (mul64 x y).2)]) v) ⟨[(V.int .u64 x), (V.int .u64 y)] ++ List.replicate 49 V.un, []⟩ = ((V.tup [(V.int .u64 (mul64 x y).1), (V.int .u64 (mul64 x y).2)]).den z0 = (V.tup [(V.int .u64 (mul64 x y).1), (V.int .u64 (mul64 x y).2)]).den z0) := by kernel_rfl
theorem mul64_a (x : Int) (y : Int) : awp Try.prog o27 noG 300 (body Try.f119) (ends Try.prog Try.f119 fun v _ => okV (V.tup [(V.int .u64 (mul64 x y).1), (V.int .u64 (mul64 x y).2)]) v) ⟨[(V.int .u64 x), (V.int .u64 y)] ++ List.replicate 49 V.un, []⟩ := by rw [mul64_t]
def g119 : List V → Option (Bool × V) := fun | [.int .u64 x, .int .u64 y] => some (true, (V.tup [(V.int .u64 (mul64 x y).1), (V.int .u64 (mul64 x y).2)])) | _ => none
theorem mul64_p (x : Int) (y : Int) : (∀ μ μ', V.den μ' (V.tup [(V.int .u64 (mul64 x y).1), (V.int .u64 (mul64 x y).2)]) = V.den μ (V.tup [(V.int .u64 (mul64 x y).1), (V.int .u64 (mul64 x y).2)])) ∧ ∀ μ w, PureAt Try.prog 119 (([(V.int .u64 x), (V.int .u64 y)] : List V).map (V.den μ)).toArray (V.den μ (V.tup [(V.int .u64 (mul64 x y).1), (V.int .u64 (mul64 x y).2)])) w :=
  pure_ok (F := o27) (N := 300) (fn := Try.f119) (args := [(V.int .u64 x), (V.int .u64 y)]) (r := (V.tup [(V.int .u64 (mul64 x y).1), (V.int .u64 (mul64 x y).2)])) (n := 49) hM o27_ok (noG_ok _) Try.func119 (by kernel_rfl) (by kernel_rfl) (by kernel_rfl) (by kernel_rfl) (mul64_a x y) (by kernel_rfl)
theorem g119_ok (vs : List V) (v : V) (h : g119 vs = some (true, v)) : (∀ μ μ', v.den μ' = v.den μ) ∧ ∀ μ w, PureAt Try.prog 119 (vs.map (V.den μ)).toArray (v.den μ) w := by
  unfold g119 at h
  split at h
  · simp only [Option.some.injEq, Prod.mk.injEq, true_and] at h
    subst h
    exact mul64_p _ _
  · simp at h
def o119 : Orc := ext 119 g119 o27
theorem o119_ok : OrcOK Try.prog o119 := ext_ok o27_ok g119_ok

/- bits.Add64: the model's own entry -/
def aS (x y c : Int) : Int := (x + y + c) % 18446744073709551616
def aC (x y c : Int) : Int := (x + y + c) / 18446744073709551616
/-- The entry takes numbers that are not below 0, and a carry of 0 or 1. -/
def aOK (x y c : Int) : Bool := decide (0 ≤ x) && decide (0 ≤ y) && decide (0 ≤ c) && decide (c ≤ 1)
def g89 : List V → Option (Bool × V) := fun | [.int .u64 x, .int .u64 y, .int .u64 c] => some (aOK x y c, .tup [.int .u64 (aS x y c), .int .u64 (aC x y c)]) | _ => none
theorem g89_ok (vs : List V) (v : V) (h : g89 vs = some (true, v)) : (∀ μ μ', v.den μ' = v.den μ) ∧ ∀ μ w, PureAt Try.prog 89 (vs.map (V.den μ)).toArray (v.den μ) w := by
  unfold g89 at h
  split at h
  · rename_i x y c
    simp only [Option.some.injEq, Prod.mk.injEq] at h
    obtain ⟨h, rfl⟩ := h
    simp only [aOK, Bool.and_eq_true, decide_eq_true_eq] at h
    obtain ⟨⟨⟨h1, h2⟩, h3⟩, h4⟩ := h
    refine ⟨fun μ μ' => by simp [V.den, V.dens], fun μ w => .inl ?_⟩
    rw [run_callFunc_extern Try.func89 (by kernel_rfl) (by kernel_rfl) (by kernel_rfl) (e := add64Entry) (by kernel_rfl)]
    simp only [List.map_cons, List.map_nil, V.den, V.dens]
    rw [run_add64 x y c h1 h2 h3 h4]
    rfl
  · simp at h
def o89 : Orc := ext 89 g89 o119
theorem o89_ok : OrcOK Try.prog o89 := ext_ok o119_ok g89_ok
def l5 (a0 a1 a2 a3 a4 : Int) : Nat → Int := L [a0, a1, a2, a3, a4]
theorem reduceF_nf (x : Nat → Int) : reduceF (l5 (x 0) (x 1) (x 2) (x 3) (x 4)) = reduceF x := by
  have e : carryF (l5 (x 0) (x 1) (x 2) (x 3) (x 4)) = carryF x := by kernel_rfl
  unfold reduceF
  rw [e]
def g82n : List V → Option (Bool × V) := fun | [.ints .u64 5 x] => some (true, (V.ints .u64 5 (reduceF (l5 (x 0) (x 1) (x 2) (x 3) (x 4))))) | _ => none
theorem g82n_ok (vs : List V) (v : V) (h : g82n vs = some (true, v)) : (∀ μ μ', v.den μ' = v.den μ) ∧ ∀ μ w, PureAt Try.prog 82 (vs.map (V.den μ)).toArray (v.den μ) w := by
  unfold g82n at h
  split at h
  · simp only [Option.some.injEq, Prod.mk.injEq, true_and] at h
    subst h
    rw [reduceF_nf]
    exact reduceF_p _
  · simp at h
def o82n : Orc := ext 82 g82n o89
theorem o82n_ok : OrcOK Try.prog o82n := ext_ok o89_ok g82n_ok
/-- (*wide).add is gone through in place. -/
def G88 : GOrc := inl Try.prog o82n 300 88 Try.f88 noG
theorem G88_ok : GOrcOK Try.prog G88 := inl_ok hM o82n_ok (noG_ok _) Try.func88 (by kernel_rfl) (by kernel_rfl)
end Go.Proofs.Ytbnclikjbnfodaa
