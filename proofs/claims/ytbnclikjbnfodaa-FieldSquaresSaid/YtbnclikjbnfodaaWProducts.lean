import Derived.Test.YtbnclikjbnfodaaWL
import Derived.Test.YtbnclikjbnfodaaRows
namespace Go.Proofs.Ytbnclikjbnfodaa
open Go.Ev
/- field.Square -/
def squareF (x : (Nat → Int)) : (Nat → Int) := (mulF x x)
theorem squareF_t (x : (Nat → Int)) : awp Try.prog o43 noG 300 (body Try.f45) (ends Try.prog Try.f45 fun v _ => okV (V.ints .u64 5 (squareF x)) v) ⟨[(V.ints .u64 5 x)] ++ List.replicate 5 V.un, []⟩ = ((V.ints .u64 5 (squareF x)).den z0 = (V.ints .u64 5 (squareF x)).den z0) := by kernel_rfl
theorem squareF_a (x : (Nat → Int)) : awp Try.prog o43 noG 300 (body Try.f45) (ends Try.prog Try.f45 fun v _ => okV (V.ints .u64 5 (squareF x)) v) ⟨[(V.ints .u64 5 x)] ++ List.replicate 5 V.un, []⟩ := by rw [squareF_t]
def g45 : List V → Option (Bool × V) := fun | [.ints .u64 5 x] => some (true, (V.ints .u64 5 (squareF x))) | _ => none
theorem squareF_p (x : (Nat → Int)) : (∀ μ μ', V.den μ' (V.ints .u64 5 (squareF x)) = V.den μ (V.ints .u64 5 (squareF x))) ∧ ∀ μ w, PureAt Try.prog 45 (([(V.ints .u64 5 x)] : List V).map (V.den μ)).toArray (V.den μ (V.ints .u64 5 (squareF x))) w :=
  pure_ok (F := o43) (N := 300) (fn := Try.f45) (args := [(V.ints .u64 5 x)]) (r := (V.ints .u64 5 (squareF x))) (n := 5) hM o43_ok (noG_ok _) Try.func45 (by kernel_rfl) (by kernel_rfl) (by kernel_rfl) (by kernel_rfl) (squareF_a x) (by kernel_rfl)
theorem g45_ok (vs : List V) (v : V) (h : g45 vs = some (true, v)) : (∀ μ μ', v.den μ' = v.den μ) ∧ ∀ μ w, PureAt Try.prog 45 (vs.map (V.den μ)).toArray (v.den μ) w := by
  unfold g45 at h
  split at h
  · simp only [Option.some.injEq, Prod.mk.injEq, true_and] at h
    subst h
    exact squareF_p _
  · simp at h
def o45 : Orc := ext 45 g45 o43
theorem o45_ok : OrcOK Try.prog o45 := ext_ok o43_ok g45_ok

/- fareboxlaw05.FieldProducts -/
def lawProducts (x : (Nat → Int)) (y : (Nat → Int)) : Bool := (cond (isE (mulF x y) (rMul (rOf x) (rOf y))) (isE (squareF x) (rMul (rOf x) (rOf x))) false)
theorem lawProducts_t (x : (Nat → Int)) (y : (Nat → Int)) : awp Try.prog o45 noG 300 (body Try.f6) (ends Try.prog Try.f6 fun v _ => okV (V.bool (lawProducts x y)) v) ⟨[(V.ints .u64 5 x), (V.ints .u64 5 y)] ++ List.replicate 24 V.un, []⟩ = (mB (isE (mulF x y) (rMul (rOf x) (rOf y))) ((V.bool (isE (squareF x) (rMul (rOf x) (rOf x)))).den z0 = (V.bool (lawProducts x y)).den z0) ((V.bool false).den z0 = (V.bool (lawProducts x y)).den z0)) := by kernel_rfl
theorem lawProducts_a (x : (Nat → Int)) (y : (Nat → Int)) : awp Try.prog o45 noG 300 (body Try.f6) (ends Try.prog Try.f6 fun v _ => okV (V.bool (lawProducts x y)) v) ⟨[(V.ints .u64 5 x), (V.ints .u64 5 y)] ++ List.replicate 24 V.un, []⟩ := by
  rw [lawProducts_t]
  refine mBt (fun h1 => ?_) (fun h1 => ?_)
  · simp only [lawProducts, h1, cond_true]
  · simp only [lawProducts, h1, cond_false]
def g6 : List V → Option (Bool × V) := fun | [.ints .u64 5 x, .ints .u64 5 y] => some (true, (V.bool (lawProducts x y))) | _ => none
theorem lawProducts_p (x : (Nat → Int)) (y : (Nat → Int)) : (∀ μ μ', V.den μ' (V.bool (lawProducts x y)) = V.den μ (V.bool (lawProducts x y))) ∧ ∀ μ w, PureAt Try.prog 6 (([(V.ints .u64 5 x), (V.ints .u64 5 y)] : List V).map (V.den μ)).toArray (V.den μ (V.bool (lawProducts x y))) w :=
  pure_ok (F := o45) (N := 300) (fn := Try.f6) (args := [(V.ints .u64 5 x), (V.ints .u64 5 y)]) (r := (V.bool (lawProducts x y))) (n := 24) hM o45_ok (noG_ok _) Try.func6 (by kernel_rfl) (by kernel_rfl) (by kernel_rfl) (by kernel_rfl) (lawProducts_a x y) (by kernel_rfl)
theorem g6_ok (vs : List V) (v : V) (h : g6 vs = some (true, v)) : (∀ μ μ', v.den μ' = v.den μ) ∧ ∀ μ w, PureAt Try.prog 6 (vs.map (V.den μ)).toArray (v.den μ) w := by
  unfold g6 at h
  split at h
  · simp only [Option.some.injEq, Prod.mk.injEq, true_and] at h
    subst h
    exact lawProducts_p _ _
  · simp at h
def o6 : Orc := ext 6 g6 o45
theorem o6_ok : OrcOK Try.prog o6 := ext_ok o45_ok g6_ok
end Go.Proofs.Ytbnclikjbnfodaa
