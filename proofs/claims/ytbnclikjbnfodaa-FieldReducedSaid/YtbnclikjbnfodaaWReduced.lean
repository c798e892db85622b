import Derived.Test.YtbnclikjbnfodaaZ19
import Derived.Test.YtbnclikjbnfodaaRows
namespace Go.Proofs.Ytbnclikjbnfodaa
open Go.Ev
/- fareboxlaw05.reduced -/
noncomputable def reducedF (x : (Nat → Int)) : Bool := (cond (decide ((x 0) ≥ 2251799813685248)) false (cond (decide ((x 1) ≥ 2251799813685248)) false (cond ((x 1) != 2251799813685247) (cond (decide ((x 2) ≥ 2251799813685248)) false (cond ((x 2) != 2251799813685247) (cond (decide ((x 3) ≥ 2251799813685248)) false (cond ((x 3) != 2251799813685247) (cond (decide ((x 4) ≥ 2251799813685248)) false (cond ((x 4) != 2251799813685247) true true)) (cond (decide ((x 4) ≥ 2251799813685248)) false (cond ((x 4) != 2251799813685247) true true)))) (cond (decide ((x 3) ≥ 2251799813685248)) false (cond ((x 3) != 2251799813685247) (cond (decide ((x 4) ≥ 2251799813685248)) false (cond ((x 4) != 2251799813685247) true true)) (cond (decide ((x 4) ≥ 2251799813685248)) false (cond ((x 4) != 2251799813685247) true true)))))) (cond (decide ((x 2) ≥ 2251799813685248)) false (cond ((x 2) != 2251799813685247) (cond (decide ((x 3) ≥ 2251799813685248)) false (cond ((x 3) != 2251799813685247) (cond (decide ((x 4) ≥ 2251799813685248)) false (cond ((x 4) != 2251799813685247) true true)) (cond (decide ((x 4) ≥ 2251799813685248)) false (cond ((x 4) != 2251799813685247) true true)))) (cond (decide ((x 3) ≥ 2251799813685248)) false (cond ((x 3) != 2251799813685247) (cond (decide ((x 4) ≥ 2251799813685248)) false (cond ((x 4) != 2251799813685247) true true)) (cond (decide ((x 4) ≥ 2251799813685248)) false (cond ((x 4) != 2251799813685247) true (decide ((x 0) < 2251799813685229)))))))))))
theorem reducedF_t (x : (Nat → Int)) : awp Try.prog o71O noG 300 (body Try.f54) (ends Try.prog Try.f54 fun v _ => okV (V.bool (reducedF x)) v) ⟨[(V.ints .u64 5 x)] ++ List.replicate 27 V.un, []⟩ = (mB (decide ((x 0) ≥ 2251799813685248)) ((V.bool false).den z0 = (V.bool (reducedF x)).den z0) (mB (decide ((x 1) ≥ 2251799813685248)) ((V.bool false).den z0 = (V.bool (reducedF x)).den z0) (mB ((x 1) != 2251799813685247) (mB (decide ((x 2) ≥ 2251799813685248)) ((V.bool false).den z0 = (V.bool (reducedF x)).den z0) (mB ((x 2) != 2251799813685247) (mB (decide ((x 3) ≥ 2251799813685248)) ((V.bool false).den z0 = (V.bool (reducedF x)).den z0) (mB ((x 3) != 2251799813685247) (mB (decide ((x 4) ≥ 2251799813685248)) ((V.bool false).den z0 = (V.bool (reducedF x)).den z0) (mB ((x 4) != 2251799813685247) ((V.bool true).den z0 = (V.bool (reducedF x)).den z0) ((V.bool true).den z0 = (V.bool (reducedF x)).den z0))) (mB (decide ((x 4) ≥ 2251799813685248)) ((V.bool false).den z0 = (V.bool (reducedF x)).den z0) (mB ((x 4) != 2251799813685247) ((V.bool true).den z0 = (V.bool (reducedF x)).den z0) ((V.bool true).den z0 = (V.bool (reducedF x)).den z0))))) (mB (decide ((x 3) ≥ 2251799813685248)) ((V.bool false).den z0 = (V.bool (reducedF x)).den z0) (mB ((x 3) != 2251799813685247) (mB (decide ((x 4) ≥ 2251799813685248)) ((V.bool false).den z0 = (V.bool (reducedF x)).den z0) (mB ((x 4) != 2251799813685247) ((V.bool true).den z0 = (V.bool (reducedF x)).den z0) ((V.bool true).den z0 = (V.bool (reducedF x)).den z0))) (mB (decide ((x 4) ≥ 2251799813685248)) ((V.bool false).den z0 = (V.bool (reducedF x)).den z0) (mB ((x 4) != 2251799813685247) ((V.bool true).den z0 = (V.bool (reducedF x)).den z0) ((V.bool true).den z0 = (V.bool (reducedF x)).den z0))))))) (mB (decide ((x 2) ≥ 2251799813685248)) ((V.bool false).den z0 = (V.bool (reducedF x)).den z0) (mB ((x 2) != 2251799813685247) (mB (decide ((x 3) ≥ 2251799813685248)) ((V.bool false).den z0 = (V.bool (reducedF x)).den z0) (mB ((x 3) != 2251799813685247) (mB (decide ((x 4) ≥ 2251799813685248)) ((V.bool false).den z0 = (V.bool (reducedF x)).den z0) (mB ((x 4) != 2251799813685247) ((V.bool true).den z0 = (V.bool (reducedF x)).den z0) ((V.bool true).den z0 = (V.bool (reducedF x)).den z0))) (mB (decide ((x 4) ≥ 2251799813685248)) ((V.bool false).den z0 = (V.bool (reducedF x)).den z0) (mB ((x 4) != 2251799813685247) ((V.bool true).den z0 = (V.bool (reducedF x)).den z0) ((V.bool true).den z0 = (V.bool (reducedF x)).den z0))))) (mB (decide ((x 3) ≥ 2251799813685248)) ((V.bool false).den z0 = (V.bool (reducedF x)).den z0) (mB ((x 3) != 2251799813685247) (mB (decide ((x 4) ≥ 2251799813685248)) ((V.bool false).den z0 = (V.bool (reducedF x)).den z0) (mB ((x 4) != 2251799813685247) ((V.bool true).den z0 = (V.bool (reducedF x)).den z0) ((V.bool true).den z0 = (V.bool (reducedF x)).den z0))) (mB (decide ((x 4) ≥ 2251799813685248)) ((V.bool false).den z0 = (V.bool (reducedF x)).den z0) (mB ((x 4) != 2251799813685247) ((V.bool true).den z0 = (V.bool (reducedF x)).den z0) ((V.bool (decide ((x 0) < 2251799813685229))).den z0 = (V.bool (reducedF x)).den z0)))))))))) := by kernel_rfl
theorem reducedF_a (x : (Nat → Int)) : awp Try.prog o71O noG 300 (body Try.f54) (ends Try.prog Try.f54 fun v _ => okV (V.bool (reducedF x)) v) ⟨[(V.ints .u64 5 x)] ++ List.replicate 27 V.un, []⟩ := by
  rw [reducedF_t]
  refine mBt (fun h1 => ?_) (fun h1 => ?_)
  · simp only [reducedF, h1, cond_true]
  · refine mBt (fun h2 => ?_) (fun h2 => ?_)
    · simp only [reducedF, h1, h2, cond_true, cond_false]
    · refine mBt (fun h3 => ?_) (fun h3 => ?_)
      · refine mBt (fun h4 => ?_) (fun h4 => ?_)
        · simp only [reducedF, h1, h2, h3, h4, cond_true, cond_false]
        · refine mBt (fun h5 => ?_) (fun h5 => ?_)
          · refine mBt (fun h6 => ?_) (fun h6 => ?_)
            · simp only [reducedF, h1, h2, h3, h4, h5, h6, cond_true, cond_false]
            · refine mBt (fun h7 => ?_) (fun h7 => ?_)
              · refine mBt (fun h8 => ?_) (fun h8 => ?_)
                · simp only [reducedF, h1, h2, h3, h4, h5, h6, h7, h8, cond_true, cond_false]
                · refine mBt (fun h9 => ?_) (fun h9 => ?_)
                  · simp only [reducedF, h1, h2, h3, h4, h5, h6, h7, h8, h9, cond_true, cond_false]
                  · simp only [reducedF, h1, h2, h3, h4, h5, h6, h7, h8, h9, cond_true, cond_false]
              · refine mBt (fun h8 => ?_) (fun h8 => ?_)
                · simp only [reducedF, h1, h2, h3, h4, h5, h6, h7, h8, cond_true, cond_false]
                · refine mBt (fun h9 => ?_) (fun h9 => ?_)
                  · simp only [reducedF, h1, h2, h3, h4, h5, h6, h7, h8, h9, cond_true, cond_false]
                  · simp only [reducedF, h1, h2, h3, h4, h5, h6, h7, h8, h9, cond_true, cond_false]
          · refine mBt (fun h6 => ?_) (fun h6 => ?_)
            · simp only [reducedF, h1, h2, h3, h4, h5, h6, cond_true, cond_false]
            · refine mBt (fun h7 => ?_) (fun h7 => ?_)
              · refine mBt (fun h8 => ?_) (fun h8 => ?_)
                · simp only [reducedF, h1, h2, h3, h4, h5, h6, h7, h8, cond_true, cond_false]
                · refine mBt (fun h9 => ?_) (fun h9 => ?_)
                  · simp only [reducedF, h1, h2, h3, h4, h5, h6, h7, h8, h9, cond_true, cond_false]
                  · simp only [reducedF, h1, h2, h3, h4, h5, h6, h7, h8, h9, cond_true, cond_false]
              · refine mBt (fun h8 => ?_) (fun h8 => ?_)
                · simp only [reducedF, h1, h2, h3, h4, h5, h6, h7, h8, cond_true, cond_false]
                · refine mBt (fun h9 => ?_) (fun h9 => ?_)
                  · simp only [reducedF, h1, h2, h3, h4, h5, h6, h7, h8, h9, cond_true, cond_false]
                  · simp only [reducedF, h1, h2, h3, h4, h5, h6, h7, h8, h9, cond_true, cond_false]
      · refine mBt (fun h4 => ?_) (fun h4 => ?_)
        · simp only [reducedF, h1, h2, h3, h4, cond_true, cond_false]
        · refine mBt (fun h5 => ?_) (fun h5 => ?_)
          · refine mBt (fun h6 => ?_) (fun h6 => ?_)
            · simp only [reducedF, h1, h2, h3, h4, h5, h6, cond_true, cond_false]
            · refine mBt (fun h7 => ?_) (fun h7 => ?_)
              · refine mBt (fun h8 => ?_) (fun h8 => ?_)
                · simp only [reducedF, h1, h2, h3, h4, h5, h6, h7, h8, cond_true, cond_false]
                · refine mBt (fun h9 => ?_) (fun h9 => ?_)
                  · simp only [reducedF, h1, h2, h3, h4, h5, h6, h7, h8, h9, cond_true, cond_false]
                  · simp only [reducedF, h1, h2, h3, h4, h5, h6, h7, h8, h9, cond_true, cond_false]
              · refine mBt (fun h8 => ?_) (fun h8 => ?_)
                · simp only [reducedF, h1, h2, h3, h4, h5, h6, h7, h8, cond_true, cond_false]
                · refine mBt (fun h9 => ?_) (fun h9 => ?_)
                  · simp only [reducedF, h1, h2, h3, h4, h5, h6, h7, h8, h9, cond_true, cond_false]
                  · simp only [reducedF, h1, h2, h3, h4, h5, h6, h7, h8, h9, cond_true, cond_false]
          · refine mBt (fun h6 => ?_) (fun h6 => ?_)
            · simp only [reducedF, h1, h2, h3, h4, h5, h6, cond_true, cond_false]
            · refine mBt (fun h7 => ?_) (fun h7 => ?_)
              · refine mBt (fun h8 => ?_) (fun h8 => ?_)
                · simp only [reducedF, h1, h2, h3, h4, h5, h6, h7, h8, cond_true, cond_false]
                · refine mBt (fun h9 => ?_) (fun h9 => ?_)
                  · simp only [reducedF, h1, h2, h3, h4, h5, h6, h7, h8, h9, cond_true, cond_false]
                  · simp only [reducedF, h1, h2, h3, h4, h5, h6, h7, h8, h9, cond_true, cond_false]
              · refine mBt (fun h8 => ?_) (fun h8 => ?_)
                · simp only [reducedF, h1, h2, h3, h4, h5, h6, h7, h8, cond_true, cond_false]
                · refine mBt (fun h9 => ?_) (fun h9 => ?_)
                  · simp only [reducedF, h1, h2, h3, h4, h5, h6, h7, h8, h9, cond_true, cond_false]
                  · simp only [reducedF, h1, h2, h3, h4, h5, h6, h7, h8, h9, cond_false]
noncomputable def g54 : List V → Option (Bool × V) := fun | [.ints .u64 5 x] => some (true, (V.bool (reducedF x))) | _ => none
theorem reducedF_p (x : (Nat → Int)) : (∀ μ μ', V.den μ' (V.bool (reducedF x)) = V.den μ (V.bool (reducedF x))) ∧ ∀ μ w, PureAt Try.prog 54 (([(V.ints .u64 5 x)] : List V).map (V.den μ)).toArray (V.den μ (V.bool (reducedF x))) w :=
  pure_ok (F := o71O) (N := 300) (fn := Try.f54) (args := [(V.ints .u64 5 x)]) (r := (V.bool (reducedF x))) (n := 27) hM o71O_ok (noG_ok _) Try.func54 (by kernel_rfl) (by kernel_rfl) (by kernel_rfl) (by kernel_rfl) (reducedF_a x) (by kernel_rfl)
theorem g54_ok (vs : List V) (v : V) (h : g54 vs = some (true, v)) : (∀ μ μ', v.den μ' = v.den μ) ∧ ∀ μ w, PureAt Try.prog 54 (vs.map (V.den μ)).toArray (v.den μ) w := by
  unfold g54 at h
  split at h
  · simp only [Option.some.injEq, Prod.mk.injEq, true_and] at h
    subst h
    exact reducedF_p _
  · simp at h
noncomputable def o54 : Orc := ext 54 g54 o71O
theorem o54_ok : OrcOK Try.prog o54 := ext_ok o71O_ok g54_ok

theorem reducedFO_ex : ∃ f : (Nat → Int) → Bool, f = reducedF := ⟨_, rfl⟩
/-- reducedF, by a name that is not unfolded. -/
noncomputable def reducedFO : (Nat → Int) → Bool := Classical.choose reducedFO_ex
theorem reducedFO_eq : reducedFO = reducedF := Classical.choose_spec reducedFO_ex
noncomputable def g54O : List V → Option (Bool × V) := fun | [.ints .u64 5 x] => some (true, (V.bool (reducedFO x))) | _ => none
theorem g54O_ok (vs : List V) (v : V) (h : g54O vs = some (true, v)) : (∀ μ μ', v.den μ' = v.den μ) ∧ ∀ μ w, PureAt Try.prog 54 (vs.map (V.den μ)).toArray (v.den μ) w := by
  unfold g54O at h
  split at h
  · simp only [Option.some.injEq, Prod.mk.injEq, true_and] at h
    subst h
    rw [reducedFO_eq]
    exact reducedF_p _
  · simp at h
noncomputable def o54O : Orc := ext 54 g54O o54
theorem o54O_ok : OrcOK Try.prog o54O := ext_ok o54_ok g54O_ok

/-- The slice of all answers. -/
noncomputable def allF (x y b : Nat → Int) : Nat → Int := (spl 55 5 60 (sqrtFO x y).1 (spl 50 5 60 (selectFO false x y) (spl 45 5 60 (selectFO true x y) (spl 40 5 60 (smallFO (x 0)) (spl 35 5 60 (fromBytesFO b) (spl 30 5 60 (powFO x b) (spl 25 5 60 (invertFO x) (spl 20 5 60 (squareFO x) (spl 15 5 60 (negFO x) (spl 10 5 60 (mulFO x y) (spl 5 5 60 (subFO x y) (spl 0 5 60 (addFO x y) (fun _ => 0)))))))))))))
/- fareboxlaw05.FieldReduced -/
noncomputable def lawReduced (x : (Nat → Int)) (y : (Nat → Int)) (b : (Nat → Int)) : Bool := (cond (!(reducedFO (sh 0 (allF x y b)))) false (cond (!(reducedFO (sh 5 (allF x y b)))) false (cond (!(reducedFO (sh 10 (allF x y b)))) false (cond (!(reducedFO (sh 15 (allF x y b)))) false (cond (!(reducedFO (sh 20 (allF x y b)))) false (cond (!(reducedFO (sh 25 (allF x y b)))) false (cond (!(reducedFO (sh 30 (allF x y b)))) false (cond (!(reducedFO (sh 35 (allF x y b)))) false (cond (!(reducedFO (sh 40 (allF x y b)))) false (cond (!(reducedFO (sh 45 (allF x y b)))) false (cond (!(reducedFO (sh 50 (allF x y b)))) false (cond (!(reducedFO (sh 55 (allF x y b)))) false (cond (!((equalFO x y) == (eqN 32 (bytesFO x) (bytesFO y)))) false (cond (!(canonicalFO (bytesFO x))) false (cond (!(eqN 5 (fromBytesFO (bytesFO x)) (selectFO true x y))) false (cond (!((canonicalFO b) == (eqN 32 (bytesFO (fromBytesFO b)) b))) false (cond (!((isOddFO x) == ((remI ((bytesFO x) 0) 2) == 1))) false countsBO)))))))))))))))))
theorem lawReduced_t (x : (Nat → Int)) (y : (Nat → Int)) (b : (Nat → Int)) : awp Try.prog o54O noG 300 (body Try.f12) (ends Try.prog Try.f12 fun v _ => okV (V.bool (lawReduced x y b)) v) ⟨[(V.ints .u64 5 x), (V.ints .u64 5 y), (V.ints .u8 32 b)] ++ List.replicate 99 V.un, []⟩ = (mB (!(reducedFO (sh 0 (allF x y b)))) ((V.bool false).den z0 = (V.bool (lawReduced x y b)).den z0) (mB (!(reducedFO (sh 5 (allF x y b)))) ((V.bool false).den z0 = (V.bool (lawReduced x y b)).den z0) (mB (!(reducedFO (sh 10 (allF x y b)))) ((V.bool false).den z0 = (V.bool (lawReduced x y b)).den z0) (mB (!(reducedFO (sh 15 (allF x y b)))) ((V.bool false).den z0 = (V.bool (lawReduced x y b)).den z0) (mB (!(reducedFO (sh 20 (allF x y b)))) ((V.bool false).den z0 = (V.bool (lawReduced x y b)).den z0) (mB (!(reducedFO (sh 25 (allF x y b)))) ((V.bool false).den z0 = (V.bool (lawReduced x y b)).den z0) (mB (!(reducedFO (sh 30 (allF x y b)))) ((V.bool false).den z0 = (V.bool (lawReduced x y b)).den z0) (mB (!(reducedFO (sh 35 (allF x y b)))) ((V.bool false).den z0 = (V.bool (lawReduced x y b)).den z0) (mB (!(reducedFO (sh 40 (allF x y b)))) ((V.bool false).den z0 = (V.bool (lawReduced x y b)).den z0) (mB (!(reducedFO (sh 45 (allF x y b)))) ((V.bool false).den z0 = (V.bool (lawReduced x y b)).den z0) (mB (!(reducedFO (sh 50 (allF x y b)))) ((V.bool false).den z0 = (V.bool (lawReduced x y b)).den z0) (mB (!(reducedFO (sh 55 (allF x y b)))) ((V.bool false).den z0 = (V.bool (lawReduced x y b)).den z0) (mB (!((equalFO x y) == (eqN 32 (bytesFO x) (bytesFO y)))) ((V.bool false).den z0 = (V.bool (lawReduced x y b)).den z0) (mB (!(canonicalFO (bytesFO x))) ((V.bool false).den z0 = (V.bool (lawReduced x y b)).den z0) (mB (!(eqN 5 (fromBytesFO (bytesFO x)) (selectFO true x y))) ((V.bool false).den z0 = (V.bool (lawReduced x y b)).den z0) (mB (!((canonicalFO b) == (eqN 32 (bytesFO (fromBytesFO b)) b))) ((V.bool false).den z0 = (V.bool (lawReduced x y b)).den z0) (mB (!((isOddFO x) == ((remI ((bytesFO x) 0) 2) == 1))) ((V.bool false).den z0 = (V.bool (lawReduced x y b)).den z0) ((V.bool countsBO).den z0 = (V.bool (lawReduced x y b)).den z0)))))))))))))))))) := by kernel_rfl
theorem lawReduced_a (x : (Nat → Int)) (y : (Nat → Int)) (b : (Nat → Int)) : awp Try.prog o54O noG 300 (body Try.f12) (ends Try.prog Try.f12 fun v _ => okV (V.bool (lawReduced x y b)) v) ⟨[(V.ints .u64 5 x), (V.ints .u64 5 y), (V.ints .u8 32 b)] ++ List.replicate 99 V.un, []⟩ := by
  rw [lawReduced_t]
  refine mBt (fun h1 => ?_) (fun h1 => ?_)
  · simp only [lawReduced, h1, cond_true]
  · refine mBt (fun h2 => ?_) (fun h2 => ?_)
    · simp only [lawReduced, h1, h2, cond_true, cond_false]
    · refine mBt (fun h3 => ?_) (fun h3 => ?_)
      · simp only [lawReduced, h1, h2, h3, cond_true, cond_false]
      · refine mBt (fun h4 => ?_) (fun h4 => ?_)
        · simp only [lawReduced, h1, h2, h3, h4, cond_true, cond_false]
        · refine mBt (fun h5 => ?_) (fun h5 => ?_)
          · simp only [lawReduced, h1, h2, h3, h4, h5, cond_true, cond_false]
          · refine mBt (fun h6 => ?_) (fun h6 => ?_)
            · simp only [lawReduced, h1, h2, h3, h4, h5, h6, cond_true, cond_false]
            · refine mBt (fun h7 => ?_) (fun h7 => ?_)
              · simp only [lawReduced, h1, h2, h3, h4, h5, h6, h7, cond_true, cond_false]
              · refine mBt (fun h8 => ?_) (fun h8 => ?_)
                · simp only [lawReduced, h1, h2, h3, h4, h5, h6, h7, h8, cond_true, cond_false]
                · refine mBt (fun h9 => ?_) (fun h9 => ?_)
                  · simp only [lawReduced, h1, h2, h3, h4, h5, h6, h7, h8, h9, cond_true, cond_false]
                  · refine mBt (fun h10 => ?_) (fun h10 => ?_)
                    · simp only [lawReduced, h1, h2, h3, h4, h5, h6, h7, h8, h9, h10, cond_true, cond_false]
                    · refine mBt (fun h11 => ?_) (fun h11 => ?_)
                      · simp only [lawReduced, h1, h2, h3, h4, h5, h6, h7, h8, h9, h10, h11, cond_true, cond_false]
                      · refine mBt (fun h12 => ?_) (fun h12 => ?_)
                        · simp only [lawReduced, h1, h2, h3, h4, h5, h6, h7, h8, h9, h10, h11, h12, cond_true, cond_false]
                        · refine mBt (fun h13 => ?_) (fun h13 => ?_)
                          · simp only [lawReduced, h1, h2, h3, h4, h5, h6, h7, h8, h9, h10, h11, h12, h13, cond_true, cond_false]
                          · refine mBt (fun h14 => ?_) (fun h14 => ?_)
                            · simp only [lawReduced, h1, h2, h3, h4, h5, h6, h7, h8, h9, h10, h11, h12, h13, h14, cond_true, cond_false]
                            · refine mBt (fun h15 => ?_) (fun h15 => ?_)
                              · simp only [lawReduced, h1, h2, h3, h4, h5, h6, h7, h8, h9, h10, h11, h12, h13, h14, h15, cond_true, cond_false]
                              · refine mBt (fun h16 => ?_) (fun h16 => ?_)
                                · simp only [lawReduced, h1, h2, h3, h4, h5, h6, h7, h8, h9, h10, h11, h12, h13, h14, h15, h16, cond_true, cond_false]
                                · refine mBt (fun h17 => ?_) (fun h17 => ?_)
                                  · simp only [lawReduced, h1, h2, h3, h4, h5, h6, h7, h8, h9, h10, h11, h12, h13, h14, h15, h16, h17, cond_true, cond_false]
                                  · simp only [lawReduced, h1, h2, h3, h4, h5, h6, h7, h8, h9, h10, h11, h12, h13, h14, h15, h16, h17, cond_false]
noncomputable def g12 : List V → Option (Bool × V) := fun | [.ints .u64 5 x, .ints .u64 5 y, .ints .u8 32 b] => some (true, (V.bool (lawReduced x y b))) | _ => none
theorem lawReduced_p (x : (Nat → Int)) (y : (Nat → Int)) (b : (Nat → Int)) : (∀ μ μ', V.den μ' (V.bool (lawReduced x y b)) = V.den μ (V.bool (lawReduced x y b))) ∧ ∀ μ w, PureAt Try.prog 12 (([(V.ints .u64 5 x), (V.ints .u64 5 y), (V.ints .u8 32 b)] : List V).map (V.den μ)).toArray (V.den μ (V.bool (lawReduced x y b))) w :=
  pure_ok (F := o54O) (N := 300) (fn := Try.f12) (args := [(V.ints .u64 5 x), (V.ints .u64 5 y), (V.ints .u8 32 b)]) (r := (V.bool (lawReduced x y b))) (n := 99) hM o54O_ok (noG_ok _) Try.func12 (by kernel_rfl) (by kernel_rfl) (by kernel_rfl) (by kernel_rfl) (lawReduced_a x y b) (by kernel_rfl)
theorem g12_ok (vs : List V) (v : V) (h : g12 vs = some (true, v)) : (∀ μ μ', v.den μ' = v.den μ) ∧ ∀ μ w, PureAt Try.prog 12 (vs.map (V.den μ)).toArray (v.den μ) w := by
  unfold g12 at h
  split at h
  · simp only [Option.some.injEq, Prod.mk.injEq, true_and] at h
    subst h
    exact lawReduced_p _ _ _
  · simp at h
noncomputable def o12 : Orc := ext 12 g12 o54O
theorem o12_ok : OrcOK Try.prog o12 := ext_ok o54O_ok g12_ok
end Go.Proofs.Ytbnclikjbnfodaa
