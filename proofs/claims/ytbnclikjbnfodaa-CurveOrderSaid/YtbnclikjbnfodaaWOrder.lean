import Derived.Test.YtbnclikjbnfodaaWCS
import Derived.Test.YtbnclikjbnfodaaRows
namespace Go.Proofs.Ytbnclikjbnfodaa
open Go.Ev
/- fareboxlaw07.CurveOrder -/
noncomputable def lawOrder : Bool := (cond (!livesO) false (cond (!(equalFO (mulFO (flatPO basePO).2 (smallFO 5)) (smallFO 4))) false (cond (isOddFO (flatPO basePO).1) false (cond (smallPO basePO) false (cond (!(equalPO (mulBasePO (up 31 16 (up 15 20 (up 14 222 (up 13 249 (up 12 222 (up 11 162 (up 10 247 (up 9 156 (up 8 214 (up 7 88 (up 6 18 (up 5 99 (up 4 26 (up 3 92 (up 2 245 (up 1 211 (up 0 237 (fun _ => 0))))))))))))))))))) zeroPO)) false (equalPO (mulPO (up 0 236 (up 31 16 (up 15 20 (up 14 222 (up 13 249 (up 12 222 (up 11 162 (up 10 247 (up 9 156 (up 8 214 (up 7 88 (up 6 18 (up 5 99 (up 4 26 (up 3 92 (up 2 245 (up 1 211 (up 0 237 (fun _ => 0))))))))))))))))))) basePO) (negPO basePO)))))))
theorem lawOrder_t : awp Try.prog o74O noG 300 (body Try.f14) (ends Try.prog Try.f14 fun v _ => okV (V.bool lawOrder) v) ⟨[] ++ List.replicate 43 V.un, []⟩ = (mB (!livesO) ((V.bool false).den z0 = (V.bool lawOrder).den z0) (mB (!(equalFO (mulFO (flatPO basePO).2 (smallFO 5)) (smallFO 4))) ((V.bool false).den z0 = (V.bool lawOrder).den z0) (mB (isOddFO (flatPO basePO).1) ((V.bool false).den z0 = (V.bool lawOrder).den z0) (mB (smallPO basePO) ((V.bool false).den z0 = (V.bool lawOrder).den z0) (mB (!(equalPO (mulBasePO (up 31 16 (up 15 20 (up 14 222 (up 13 249 (up 12 222 (up 11 162 (up 10 247 (up 9 156 (up 8 214 (up 7 88 (up 6 18 (up 5 99 (up 4 26 (up 3 92 (up 2 245 (up 1 211 (up 0 237 (fun _ => 0))))))))))))))))))) zeroPO)) ((V.bool false).den z0 = (V.bool lawOrder).den z0) ((V.bool (equalPO (mulPO (up 0 236 (up 31 16 (up 15 20 (up 14 222 (up 13 249 (up 12 222 (up 11 162 (up 10 247 (up 9 156 (up 8 214 (up 7 88 (up 6 18 (up 5 99 (up 4 26 (up 3 92 (up 2 245 (up 1 211 (up 0 237 (fun _ => 0))))))))))))))))))) basePO) (negPO basePO))).den z0 = (V.bool lawOrder).den z0)))))) := by kernel_rfl
theorem lawOrder_a : awp Try.prog o74O noG 300 (body Try.f14) (ends Try.prog Try.f14 fun v _ => okV (V.bool lawOrder) v) ⟨[] ++ List.replicate 43 V.un, []⟩ := by
  rw [lawOrder_t]
  refine mBt (fun h1 => ?_) (fun h1 => ?_)
  · simp only [lawOrder, h1, cond_true]
  · refine mBt (fun h2 => ?_) (fun h2 => ?_)
    · simp only [lawOrder, h1, h2, cond_true, cond_false]
    · refine mBt (fun h3 => ?_) (fun h3 => ?_)
      · simp only [lawOrder, h1, h2, h3, cond_true, cond_false]
      · refine mBt (fun h4 => ?_) (fun h4 => ?_)
        · simp only [lawOrder, h1, h2, h3, h4, cond_true, cond_false]
        · refine mBt (fun h5 => ?_) (fun h5 => ?_)
          · simp only [lawOrder, h1, h2, h3, h4, h5, cond_true, cond_false]
          · simp only [lawOrder, h1, h2, h3, h4, h5, cond_false]
noncomputable def g14 : List V → Option (Bool × V) := fun | [] => some (true, (V.bool lawOrder)) | _ => none
theorem lawOrder_p : (∀ μ μ', V.den μ' (V.bool lawOrder) = V.den μ (V.bool lawOrder)) ∧ ∀ μ w, PureAt Try.prog 14 (([] : List V).map (V.den μ)).toArray (V.den μ (V.bool lawOrder)) w :=
  pure_ok (F := o74O) (N := 300) (fn := Try.f14) (args := []) (r := (V.bool lawOrder)) (n := 43) hM o74O_ok (noG_ok _) Try.func14 (by kernel_rfl) (by kernel_rfl) (by kernel_rfl) (by kernel_rfl) (lawOrder_a) (by kernel_rfl)
theorem g14_ok (vs : List V) (v : V) (h : g14 vs = some (true, v)) : (∀ μ μ', v.den μ' = v.den μ) ∧ ∀ μ w, PureAt Try.prog 14 (vs.map (V.den μ)).toArray (v.den μ) w := by
  unfold g14 at h
  split at h
  · simp only [Option.some.injEq, Prod.mk.injEq, true_and] at h
    subst h
    exact lawOrder_p
  · simp at h
noncomputable def o14 : Orc := ext 14 g14 o74O
theorem o14_ok : OrcOK Try.prog o14 := ext_ok o74O_ok g14_ok
end Go.Proofs.Ytbnclikjbnfodaa
