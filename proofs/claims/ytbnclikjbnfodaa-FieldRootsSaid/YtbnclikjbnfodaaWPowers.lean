import Derived.Test.YtbnclikjbnfodaaWN
import Derived.Test.YtbnclikjbnfodaaRows
namespace Go.Proofs.Ytbnclikjbnfodaa
open Go.Ev
/- fareboxlaw05.FieldPowers -/
noncomputable def lawPowers (x : (Nat → Int)) (e : (Nat → Int)) : Bool := (cond (isEO (powFO x e) (rPowO (rOfO x) e)) (isEO (invertFO x) (rInvertO (rOfO x))) false)
theorem lawPowers_t (x : (Nat → Int)) (e : (Nat → Int)) : awp Try.prog o21O noG 300 (body Try.f7) (ends Try.prog Try.f7 fun v _ => okV (V.bool (lawPowers x e)) v) ⟨[(V.ints .u64 5 x), (V.ints .u8 32 e)] ++ List.replicate 20 V.un, []⟩ = (mB (isEO (powFO x e) (rPowO (rOfO x) e)) ((V.bool (isEO (invertFO x) (rInvertO (rOfO x)))).den z0 = (V.bool (lawPowers x e)).den z0) ((V.bool false).den z0 = (V.bool (lawPowers x e)).den z0)) := by kernel_rfl
theorem lawPowers_a (x : (Nat → Int)) (e : (Nat → Int)) : awp Try.prog o21O noG 300 (body Try.f7) (ends Try.prog Try.f7 fun v _ => okV (V.bool (lawPowers x e)) v) ⟨[(V.ints .u64 5 x), (V.ints .u8 32 e)] ++ List.replicate 20 V.un, []⟩ := by
  rw [lawPowers_t]
  refine mBt (fun h1 => ?_) (fun h1 => ?_)
  · simp only [lawPowers, h1, cond_true]
  · simp only [lawPowers, h1, cond_false]
noncomputable def g7 : List V → Option (Bool × V) := fun | [.ints .u64 5 x, .ints .u8 32 e] => some (true, (V.bool (lawPowers x e))) | _ => none
theorem lawPowers_p (x : (Nat → Int)) (e : (Nat → Int)) : (∀ μ μ', V.den μ' (V.bool (lawPowers x e)) = V.den μ (V.bool (lawPowers x e))) ∧ ∀ μ w, PureAt Try.prog 7 (([(V.ints .u64 5 x), (V.ints .u8 32 e)] : List V).map (V.den μ)).toArray (V.den μ (V.bool (lawPowers x e))) w :=
  pure_ok (F := o21O) (N := 300) (fn := Try.f7) (args := [(V.ints .u64 5 x), (V.ints .u8 32 e)]) (r := (V.bool (lawPowers x e))) (n := 20) hM o21O_ok (noG_ok _) Try.func7 (by kernel_rfl) (by kernel_rfl) (by kernel_rfl) (by kernel_rfl) (lawPowers_a x e) (by kernel_rfl)
theorem g7_ok (vs : List V) (v : V) (h : g7 vs = some (true, v)) : (∀ μ μ', v.den μ' = v.den μ) ∧ ∀ μ w, PureAt Try.prog 7 (vs.map (V.den μ)).toArray (v.den μ) w := by
  unfold g7 at h
  split at h
  · simp only [Option.some.injEq, Prod.mk.injEq, true_and] at h
    subst h
    exact lawPowers_p _ _
  · simp at h
noncomputable def o7 : Orc := ext 7 g7 o21O
theorem o7_ok : OrcOK Try.prog o7 := ext_ok o21O_ok g7_ok
end Go.Proofs.Ytbnclikjbnfodaa
