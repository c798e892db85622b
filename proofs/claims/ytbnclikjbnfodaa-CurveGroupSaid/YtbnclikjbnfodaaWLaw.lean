import Derived.Test.YtbnclikjbnfodaaZ19
import Derived.Test.YtbnclikjbnfodaaRows
namespace Go.Proofs.Ytbnclikjbnfodaa
open Go.Ev
/- fareboxlaw07.CurveLaw -/
noncomputable def lawLaw (a : (Nat → Int)) (b : (Nat → Int)) : Bool := (cond (!livesO) false (cond (!(onLawPO (pointPO a))) false (cond (!(onLawPO (pointPO b))) false (cond (!(onLawPO (addPO (pointPO a) (pointPO b)))) false (cond (isZeroFO (addFO (smallFO 1) (mulFO number2O (mulFO (mulFO (flatPO (pointPO a)).1 (flatPO (pointPO b)).1) (mulFO (flatPO (pointPO a)).2 (flatPO (pointPO b)).2))))) false (cond (isZeroFO (subFO (smallFO 1) (mulFO number2O (mulFO (mulFO (flatPO (pointPO a)).1 (flatPO (pointPO b)).1) (mulFO (flatPO (pointPO a)).2 (flatPO (pointPO b)).2))))) false (cond (equalFO (mulFO (flatPO (addPO (pointPO a) (pointPO b))).1 (addFO (smallFO 1) (mulFO number2O (mulFO (mulFO (flatPO (pointPO a)).1 (flatPO (pointPO b)).1) (mulFO (flatPO (pointPO a)).2 (flatPO (pointPO b)).2))))) (addFO (mulFO (flatPO (pointPO a)).1 (flatPO (pointPO b)).2) (mulFO (flatPO (pointPO b)).1 (flatPO (pointPO a)).2))) (equalFO (mulFO (flatPO (addPO (pointPO a) (pointPO b))).2 (subFO (smallFO 1) (mulFO number2O (mulFO (mulFO (flatPO (pointPO a)).1 (flatPO (pointPO b)).1) (mulFO (flatPO (pointPO a)).2 (flatPO (pointPO b)).2))))) (addFO (mulFO (flatPO (pointPO a)).2 (flatPO (pointPO b)).2) (mulFO (flatPO (pointPO a)).1 (flatPO (pointPO b)).1))) false)))))))
theorem lawLaw_t (a : (Nat → Int)) (b : (Nat → Int)) : awp Try.prog o71O noG 300 (body Try.f16) (ends Try.prog Try.f16 fun v _ => okV (V.bool (lawLaw a b)) v) ⟨[(V.ints .u8 32 a), (V.ints .u8 32 b)] ++ List.replicate 101 V.un, []⟩ = (mB (!livesO) ((V.bool false).den z0 = (V.bool (lawLaw a b)).den z0) (mB (!(onLawPO (pointPO a))) ((V.bool false).den z0 = (V.bool (lawLaw a b)).den z0) (mB (!(onLawPO (pointPO b))) ((V.bool false).den z0 = (V.bool (lawLaw a b)).den z0) (mB (!(onLawPO (addPO (pointPO a) (pointPO b)))) ((V.bool false).den z0 = (V.bool (lawLaw a b)).den z0) (mB (isZeroFO (addFO (smallFO 1) (mulFO number2O (mulFO (mulFO (flatPO (pointPO a)).1 (flatPO (pointPO b)).1) (mulFO (flatPO (pointPO a)).2 (flatPO (pointPO b)).2))))) ((V.bool false).den z0 = (V.bool (lawLaw a b)).den z0) (mB (isZeroFO (subFO (smallFO 1) (mulFO number2O (mulFO (mulFO (flatPO (pointPO a)).1 (flatPO (pointPO b)).1) (mulFO (flatPO (pointPO a)).2 (flatPO (pointPO b)).2))))) ((V.bool false).den z0 = (V.bool (lawLaw a b)).den z0) (mB (equalFO (mulFO (flatPO (addPO (pointPO a) (pointPO b))).1 (addFO (smallFO 1) (mulFO number2O (mulFO (mulFO (flatPO (pointPO a)).1 (flatPO (pointPO b)).1) (mulFO (flatPO (pointPO a)).2 (flatPO (pointPO b)).2))))) (addFO (mulFO (flatPO (pointPO a)).1 (flatPO (pointPO b)).2) (mulFO (flatPO (pointPO b)).1 (flatPO (pointPO a)).2))) ((V.bool (equalFO (mulFO (flatPO (addPO (pointPO a) (pointPO b))).2 (subFO (smallFO 1) (mulFO number2O (mulFO (mulFO (flatPO (pointPO a)).1 (flatPO (pointPO b)).1) (mulFO (flatPO (pointPO a)).2 (flatPO (pointPO b)).2))))) (addFO (mulFO (flatPO (pointPO a)).2 (flatPO (pointPO b)).2) (mulFO (flatPO (pointPO a)).1 (flatPO (pointPO b)).1)))).den z0 = (V.bool (lawLaw a b)).den z0) ((V.bool false).den z0 = (V.bool (lawLaw a b)).den z0)))))))) := by kernel_rfl
theorem lawLaw_a (a : (Nat → Int)) (b : (Nat → Int)) : awp Try.prog o71O noG 300 (body Try.f16) (ends Try.prog Try.f16 fun v _ => okV (V.bool (lawLaw a b)) v) ⟨[(V.ints .u8 32 a), (V.ints .u8 32 b)] ++ List.replicate 101 V.un, []⟩ := by
  rw [lawLaw_t]
  refine mBt (fun h1 => ?_) (fun h1 => ?_)
  · simp only [lawLaw, h1, cond_true]
  · refine mBt (fun h2 => ?_) (fun h2 => ?_)
    · simp only [lawLaw, h1, h2, cond_true, cond_false]
    · refine mBt (fun h3 => ?_) (fun h3 => ?_)
      · simp only [lawLaw, h1, h2, h3, cond_true, cond_false]
      · refine mBt (fun h4 => ?_) (fun h4 => ?_)
        · simp only [lawLaw, h1, h2, h3, h4, cond_true, cond_false]
        · refine mBt (fun h5 => ?_) (fun h5 => ?_)
          · simp only [lawLaw, h1, h2, h3, h4, h5, cond_true, cond_false]
          · refine mBt (fun h6 => ?_) (fun h6 => ?_)
            · simp only [lawLaw, h1, h2, h3, h4, h5, h6, cond_true, cond_false]
            · refine mBt (fun h7 => ?_) (fun h7 => ?_)
              · simp only [lawLaw, h1, h2, h3, h4, h5, h6, h7, cond_true, cond_false]
              · simp only [lawLaw, h1, h2, h3, h4, h5, h6, h7, cond_false]
noncomputable def g16 : List V → Option (Bool × V) := fun | [.ints .u8 32 a, .ints .u8 32 b] => some (true, (V.bool (lawLaw a b))) | _ => none
theorem lawLaw_p (a : (Nat → Int)) (b : (Nat → Int)) : (∀ μ μ', V.den μ' (V.bool (lawLaw a b)) = V.den μ (V.bool (lawLaw a b))) ∧ ∀ μ w, PureAt Try.prog 16 (([(V.ints .u8 32 a), (V.ints .u8 32 b)] : List V).map (V.den μ)).toArray (V.den μ (V.bool (lawLaw a b))) w :=
  pure_ok (F := o71O) (N := 300) (fn := Try.f16) (args := [(V.ints .u8 32 a), (V.ints .u8 32 b)]) (r := (V.bool (lawLaw a b))) (n := 101) hM o71O_ok (noG_ok _) Try.func16 (by kernel_rfl) (by kernel_rfl) (by kernel_rfl) (by kernel_rfl) (lawLaw_a a b) (by kernel_rfl)
theorem g16_ok (vs : List V) (v : V) (h : g16 vs = some (true, v)) : (∀ μ μ', v.den μ' = v.den μ) ∧ ∀ μ w, PureAt Try.prog 16 (vs.map (V.den μ)).toArray (v.den μ) w := by
  unfold g16 at h
  split at h
  · simp only [Option.some.injEq, Prod.mk.injEq, true_and] at h
    subst h
    exact lawLaw_p _ _
  · simp at h
noncomputable def o16 : Orc := ext 16 g16 o71O
theorem o16_ok : OrcOK Try.prog o16 := ext_ok o71O_ok g16_ok
end Go.Proofs.Ytbnclikjbnfodaa
