import Derived.Test.YtbnclikjbnfodaaWG
import Derived.Test.YtbnclikjbnfodaaRows
namespace Go.Proofs.Ytbnclikjbnfodaa
open Go.Ev
/- fareboxlaw05.FieldSums -/
def lawSums (x : (Nat → Int)) (y : (Nat → Int)) : Bool := (cond (isE (addF x y) (rAdd (rOf x) (rOf y))) (cond (isE (subF x y) (rSub (rOf x) (rOf y))) (isE (negF x) (rNeg (rOf x))) false) false)
theorem lawSums_t (x : (Nat → Int)) (y : (Nat → Int)) : awp Try.prog o27 noG 300 (body Try.f4) (ends Try.prog Try.f4 fun v _ => okV (V.bool (lawSums x y)) v) ⟨[(V.ints .u64 5 x), (V.ints .u64 5 y)] ++ List.replicate 32 V.un, []⟩ = (mB (isE (addF x y) (rAdd (rOf x) (rOf y))) (mB (isE (subF x y) (rSub (rOf x) (rOf y))) ((V.bool (isE (negF x) (rNeg (rOf x)))).den z0 = (V.bool (lawSums x y)).den z0) ((V.bool false).den z0 = (V.bool (lawSums x y)).den z0)) ((V.bool false).den z0 = (V.bool (lawSums x y)).den z0)) := by kernel_rfl
theorem lawSums_a (x : (Nat → Int)) (y : (Nat → Int)) : awp Try.prog o27 noG 300 (body Try.f4) (ends Try.prog Try.f4 fun v _ => okV (V.bool (lawSums x y)) v) ⟨[(V.ints .u64 5 x), (V.ints .u64 5 y)] ++ List.replicate 32 V.un, []⟩ := by
  rw [lawSums_t]
  refine mBt (fun h1 => ?_) (fun h1 => ?_)
  · refine mBt (fun h2 => ?_) (fun h2 => ?_)
    · simp only [lawSums, h1, h2, cond_true]
    · simp only [lawSums, h1, h2, cond_true, cond_false]
  · simp only [lawSums, h1, cond_false]
def g4 : List V → Option (Bool × V) := fun | [.ints .u64 5 x, .ints .u64 5 y] => some (true, (V.bool (lawSums x y))) | _ => none
theorem lawSums_p (x : (Nat → Int)) (y : (Nat → Int)) : (∀ μ μ', V.den μ' (V.bool (lawSums x y)) = V.den μ (V.bool (lawSums x y))) ∧ ∀ μ w, PureAt Try.prog 4 (([(V.ints .u64 5 x), (V.ints .u64 5 y)] : List V).map (V.den μ)).toArray (V.den μ (V.bool (lawSums x y))) w :=
  pure_ok (F := o27) (N := 300) (fn := Try.f4) (args := [(V.ints .u64 5 x), (V.ints .u64 5 y)]) (r := (V.bool (lawSums x y))) (n := 32) hM o27_ok (noG_ok _) Try.func4 (by kernel_rfl) (by kernel_rfl) (by kernel_rfl) (by kernel_rfl) (lawSums_a x y) (by kernel_rfl)
theorem g4_ok (vs : List V) (v : V) (h : g4 vs = some (true, v)) : (∀ μ μ', v.den μ' = v.den μ) ∧ ∀ μ w, PureAt Try.prog 4 (vs.map (V.den μ)).toArray (v.den μ) w := by
  unfold g4 at h
  split at h
  · simp only [Option.some.injEq, Prod.mk.injEq, true_and] at h
    subst h
    exact lawSums_p _ _
  · simp at h
def o4 : Orc := ext 4 g4 o27
theorem o4_ok : OrcOK Try.prog o4 := ext_ok o27_ok g4_ok
end Go.Proofs.Ytbnclikjbnfodaa
