import Derived.Test.YtbnclikjbnfodaaWCS
import Derived.Test.YtbnclikjbnfodaaRows
namespace Go.Proofs.Ytbnclikjbnfodaa
open Go.Ev
/- fareboxlaw07.CurveMuls -/
noncomputable def lawMuls (key : (Nat → Int)) (a : (Nat → Int)) (b : (Nat → Int)) : Bool := (cond (!livesO) false (cond (sumFO a b).2 (cond (!(equalPO (addPO (mulPO a (pointPO key)) (mulPO b (pointPO key))) (mulPO (sumFO a b).1 (pointPO key)))) false (cond (!(equalPO (mulPO b (mulPO a (pointPO key))) (mulPO a (mulPO b (pointPO key))))) false (cond (!(onPO (mulPO a (pointPO key)))) false (cond (equalPO (mulBasePO b) (mulPO b basePO)) (equalPO (combinePO a (pointPO key) b) (addPO (mulPO a (pointPO key)) (mulBasePO b))) false)))) (cond (!(equalPO (mulPO b (mulPO a (pointPO key))) (mulPO a (mulPO b (pointPO key))))) false (cond (!(onPO (mulPO a (pointPO key)))) false (cond (equalPO (mulBasePO b) (mulPO b basePO)) (equalPO (combinePO a (pointPO key) b) (addPO (mulPO a (pointPO key)) (mulBasePO b))) false)))))
theorem lawMuls_t (key : (Nat → Int)) (a : (Nat → Int)) (b : (Nat → Int)) : awp Try.prog o74O noG 300 (body Try.f19) (ends Try.prog Try.f19 fun v _ => okV (V.bool (lawMuls key a b)) v) ⟨[(V.ints .u8 32 key), (V.ints .u8 32 a), (V.ints .u8 32 b)] ++ List.replicate 67 V.un, []⟩ = (mB (!livesO) ((V.bool false).den z0 = (V.bool (lawMuls key a b)).den z0) (mB (sumFO a b).2 (mB (!(equalPO (addPO (mulPO a (pointPO key)) (mulPO b (pointPO key))) (mulPO (sumFO a b).1 (pointPO key)))) ((V.bool false).den z0 = (V.bool (lawMuls key a b)).den z0) (mB (!(equalPO (mulPO b (mulPO a (pointPO key))) (mulPO a (mulPO b (pointPO key))))) ((V.bool false).den z0 = (V.bool (lawMuls key a b)).den z0) (mB (!(onPO (mulPO a (pointPO key)))) ((V.bool false).den z0 = (V.bool (lawMuls key a b)).den z0) (mB (equalPO (mulBasePO b) (mulPO b basePO)) ((V.bool (equalPO (combinePO a (pointPO key) b) (addPO (mulPO a (pointPO key)) (mulBasePO b)))).den z0 = (V.bool (lawMuls key a b)).den z0) ((V.bool false).den z0 = (V.bool (lawMuls key a b)).den z0))))) (mB (!(equalPO (mulPO b (mulPO a (pointPO key))) (mulPO a (mulPO b (pointPO key))))) ((V.bool false).den z0 = (V.bool (lawMuls key a b)).den z0) (mB (!(onPO (mulPO a (pointPO key)))) ((V.bool false).den z0 = (V.bool (lawMuls key a b)).den z0) (mB (equalPO (mulBasePO b) (mulPO b basePO)) ((V.bool (equalPO (combinePO a (pointPO key) b) (addPO (mulPO a (pointPO key)) (mulBasePO b)))).den z0 = (V.bool (lawMuls key a b)).den z0) ((V.bool false).den z0 = (V.bool (lawMuls key a b)).den z0)))))) := by kernel_rfl
theorem lawMuls_a (key : (Nat → Int)) (a : (Nat → Int)) (b : (Nat → Int)) : awp Try.prog o74O noG 300 (body Try.f19) (ends Try.prog Try.f19 fun v _ => okV (V.bool (lawMuls key a b)) v) ⟨[(V.ints .u8 32 key), (V.ints .u8 32 a), (V.ints .u8 32 b)] ++ List.replicate 67 V.un, []⟩ := by
  rw [lawMuls_t]
  refine mBt (fun h1 => ?_) (fun h1 => ?_)
  · simp only [lawMuls, h1, cond_true]
  · refine mBt (fun h2 => ?_) (fun h2 => ?_)
    · refine mBt (fun h3 => ?_) (fun h3 => ?_)
      · simp only [lawMuls, h1, h2, h3, cond_true, cond_false]
      · refine mBt (fun h4 => ?_) (fun h4 => ?_)
        · simp only [lawMuls, h1, h2, h3, h4, cond_true, cond_false]
        · refine mBt (fun h5 => ?_) (fun h5 => ?_)
          · simp only [lawMuls, h1, h2, h3, h4, h5, cond_true, cond_false]
          · refine mBt (fun h6 => ?_) (fun h6 => ?_)
            · simp only [lawMuls, h1, h2, h3, h4, h5, h6, cond_true, cond_false]
            · simp only [lawMuls, h1, h2, h3, h4, h5, h6, cond_true, cond_false]
    · refine mBt (fun h3 => ?_) (fun h3 => ?_)
      · simp only [lawMuls, h1, h2, h3, cond_true, cond_false]
      · refine mBt (fun h4 => ?_) (fun h4 => ?_)
        · simp only [lawMuls, h1, h2, h3, h4, cond_true, cond_false]
        · refine mBt (fun h5 => ?_) (fun h5 => ?_)
          · simp only [lawMuls, h1, h2, h3, h4, h5, cond_true, cond_false]
          · simp only [lawMuls, h1, h2, h3, h4, h5, cond_false]
noncomputable def g19 : List V → Option (Bool × V) := fun | [.ints .u8 32 key, .ints .u8 32 a, .ints .u8 32 b] => some (true, (V.bool (lawMuls key a b))) | _ => none
theorem lawMuls_p (key : (Nat → Int)) (a : (Nat → Int)) (b : (Nat → Int)) : (∀ μ μ', V.den μ' (V.bool (lawMuls key a b)) = V.den μ (V.bool (lawMuls key a b))) ∧ ∀ μ w, PureAt Try.prog 19 (([(V.ints .u8 32 key), (V.ints .u8 32 a), (V.ints .u8 32 b)] : List V).map (V.den μ)).toArray (V.den μ (V.bool (lawMuls key a b))) w :=
  pure_ok (F := o74O) (N := 300) (fn := Try.f19) (args := [(V.ints .u8 32 key), (V.ints .u8 32 a), (V.ints .u8 32 b)]) (r := (V.bool (lawMuls key a b))) (n := 67) hM o74O_ok (noG_ok _) Try.func19 (by kernel_rfl) (by kernel_rfl) (by kernel_rfl) (by kernel_rfl) (lawMuls_a key a b) (by kernel_rfl)
theorem g19_ok (vs : List V) (v : V) (h : g19 vs = some (true, v)) : (∀ μ μ', v.den μ' = v.den μ) ∧ ∀ μ w, PureAt Try.prog 19 (vs.map (V.den μ)).toArray (v.den μ) w := by
  unfold g19 at h
  split at h
  · simp only [Option.some.injEq, Prod.mk.injEq, true_and] at h
    subst h
    exact lawMuls_p _ _ _
  · simp at h
noncomputable def o19 : Orc := ext 19 g19 o74O
theorem o19_ok : OrcOK Try.prog o19 := ext_ok o74O_ok g19_ok
end Go.Proofs.Ytbnclikjbnfodaa
