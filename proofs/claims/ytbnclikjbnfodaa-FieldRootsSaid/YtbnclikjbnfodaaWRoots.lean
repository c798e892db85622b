import Derived.Test.YtbnclikjbnfodaaWSqrt
import Derived.Test.YtbnclikjbnfodaaRows
namespace Go.Proofs.Ytbnclikjbnfodaa
open Go.Ev
/- fareboxlaw05.FieldRoots -/
noncomputable def lawRoots (u : (Nat → Int)) (y : (Nat → Int)) : Bool := (cond ((sqrtFO u y).2 == (rSqrtO (rOfO u) (rOfO y)).2) (isEO (sqrtFO u y).1 (rSqrtO (rOfO u) (rOfO y)).1) false)
theorem lawRoots_t (u : (Nat → Int)) (y : (Nat → Int)) : awp Try.prog o53O noG 300 (body Try.f10) (ends Try.prog Try.f10 fun v _ => okV (V.bool (lawRoots u y)) v) ⟨[(V.ints .u64 5 u), (V.ints .u64 5 y)] ++ List.replicate 29 V.un, []⟩ = (mB ((sqrtFO u y).2 == (rSqrtO (rOfO u) (rOfO y)).2) ((V.bool (isEO (sqrtFO u y).1 (rSqrtO (rOfO u) (rOfO y)).1)).den z0 = (V.bool (lawRoots u y)).den z0) ((V.bool false).den z0 = (V.bool (lawRoots u y)).den z0)) := by kernel_rfl
theorem lawRoots_a (u : (Nat → Int)) (y : (Nat → Int)) : awp Try.prog o53O noG 300 (body Try.f10) (ends Try.prog Try.f10 fun v _ => okV (V.bool (lawRoots u y)) v) ⟨[(V.ints .u64 5 u), (V.ints .u64 5 y)] ++ List.replicate 29 V.un, []⟩ := by
  rw [lawRoots_t]
  refine mBt (fun h1 => ?_) (fun h1 => ?_)
  · simp only [lawRoots, h1, cond_true]
  · simp only [lawRoots, h1, cond_false]
noncomputable def g10 : List V → Option (Bool × V) := fun | [.ints .u64 5 u, .ints .u64 5 y] => some (true, (V.bool (lawRoots u y))) | _ => none
theorem lawRoots_p (u : (Nat → Int)) (y : (Nat → Int)) : (∀ μ μ', V.den μ' (V.bool (lawRoots u y)) = V.den μ (V.bool (lawRoots u y))) ∧ ∀ μ w, PureAt Try.prog 10 (([(V.ints .u64 5 u), (V.ints .u64 5 y)] : List V).map (V.den μ)).toArray (V.den μ (V.bool (lawRoots u y))) w :=
  pure_ok (F := o53O) (N := 300) (fn := Try.f10) (args := [(V.ints .u64 5 u), (V.ints .u64 5 y)]) (r := (V.bool (lawRoots u y))) (n := 29) hM o53O_ok (noG_ok _) Try.func10 (by kernel_rfl) (by kernel_rfl) (by kernel_rfl) (by kernel_rfl) (lawRoots_a u y) (by kernel_rfl)
theorem g10_ok (vs : List V) (v : V) (h : g10 vs = some (true, v)) : (∀ μ μ', v.den μ' = v.den μ) ∧ ∀ μ w, PureAt Try.prog 10 (vs.map (V.den μ)).toArray (v.den μ) w := by
  unfold g10 at h
  split at h
  · simp only [Option.some.injEq, Prod.mk.injEq, true_and] at h
    subst h
    exact lawRoots_p _ _
  · simp at h
noncomputable def o10 : Orc := ext 10 g10 o53O
theorem o10_ok : OrcOK Try.prog o10 := ext_ok o53O_ok g10_ok

/- fareboxlaw05.FieldSquares -/
noncomputable def lawSquares (u : (Nat → Int)) (y : (Nat → Int)) : Bool := (cond (isZeroFO y) (cond ((sqrtFO u y).2 == (isZeroFO u)) (cond (isZeroFO (sqrtFO u y).1) countsBO false) false) (cond (sqrtFO u y).2 (cond (isOddFO (sqrtFO u y).1) false (cond (!(eqN 5 (mulFO y (squareFO (sqrtFO u y).1)) (selectFO true u y))) false (cond (!(sqrtFO u y).2) (cond (!(isZeroFO (sqrtFO u y).1)) false (cond (!(eqN 5 (powFO (mulFO u y) (lawPow 246 63)) (negFO (smallFO 1)))) false (cond (sqrtFO (mulFO y (squareFO u)) y).2 (cond (eqN 5 (sqrtFO (mulFO y (squareFO u)) y).1 (selectFO true u y)) (cond (!(isOddFO (sqrtFO (mulFO y (squareFO u)) y).1)) countsBO false) (cond (eqN 5 (sqrtFO (mulFO y (squareFO u)) y).1 (negFO u)) (cond (!(isOddFO (sqrtFO (mulFO y (squareFO u)) y).1)) countsBO false) false)) false))) (cond (sqrtFO (mulFO y (squareFO u)) y).2 (cond (eqN 5 (sqrtFO (mulFO y (squareFO u)) y).1 (selectFO true u y)) (cond (!(isOddFO (sqrtFO (mulFO y (squareFO u)) y).1)) countsBO false) (cond (eqN 5 (sqrtFO (mulFO y (squareFO u)) y).1 (negFO u)) (cond (!(isOddFO (sqrtFO (mulFO y (squareFO u)) y).1)) countsBO false) false)) false)))) (cond (!(sqrtFO u y).2) (cond (!(isZeroFO (sqrtFO u y).1)) false (cond (!(eqN 5 (powFO (mulFO u y) (lawPow 246 63)) (negFO (smallFO 1)))) false (cond (sqrtFO (mulFO y (squareFO u)) y).2 (cond (eqN 5 (sqrtFO (mulFO y (squareFO u)) y).1 (selectFO true u y)) (cond (!(isOddFO (sqrtFO (mulFO y (squareFO u)) y).1)) countsBO false) (cond (eqN 5 (sqrtFO (mulFO y (squareFO u)) y).1 (negFO u)) (cond (!(isOddFO (sqrtFO (mulFO y (squareFO u)) y).1)) countsBO false) false)) false))) (cond (sqrtFO (mulFO y (squareFO u)) y).2 (cond (eqN 5 (sqrtFO (mulFO y (squareFO u)) y).1 (selectFO true u y)) (cond (!(isOddFO (sqrtFO (mulFO y (squareFO u)) y).1)) countsBO false) (cond (eqN 5 (sqrtFO (mulFO y (squareFO u)) y).1 (negFO u)) (cond (!(isOddFO (sqrtFO (mulFO y (squareFO u)) y).1)) countsBO false) false)) false))))
theorem lawSquares_t (u : (Nat → Int)) (y : (Nat → Int)) : awp Try.prog o10 noG 300 (body Try.f11) (ends Try.prog Try.f11 fun v _ => okV (V.bool (lawSquares u y)) v) ⟨[(V.ints .u64 5 u), (V.ints .u64 5 y)] ++ List.replicate 89 V.un, []⟩ = (mB (isZeroFO y) (mB ((sqrtFO u y).2 == (isZeroFO u)) (mB (isZeroFO (sqrtFO u y).1) ((V.bool countsBO).den z0 = (V.bool (lawSquares u y)).den z0) ((V.bool false).den z0 = (V.bool (lawSquares u y)).den z0)) ((V.bool false).den z0 = (V.bool (lawSquares u y)).den z0)) (mB (sqrtFO u y).2 (mB (isOddFO (sqrtFO u y).1) ((V.bool false).den z0 = (V.bool (lawSquares u y)).den z0) (mB (!(eqN 5 (mulFO y (squareFO (sqrtFO u y).1)) (selectFO true u y))) ((V.bool false).den z0 = (V.bool (lawSquares u y)).den z0) (mB (!(sqrtFO u y).2) (mB (!(isZeroFO (sqrtFO u y).1)) ((V.bool false).den z0 = (V.bool (lawSquares u y)).den z0) (mB (!(eqN 5 (powFO (mulFO u y) (lawPow 246 63)) (negFO (smallFO 1)))) ((V.bool false).den z0 = (V.bool (lawSquares u y)).den z0) (mB (sqrtFO (mulFO y (squareFO u)) y).2 (mB (eqN 5 (sqrtFO (mulFO y (squareFO u)) y).1 (selectFO true u y)) (mB (!(isOddFO (sqrtFO (mulFO y (squareFO u)) y).1)) ((V.bool countsBO).den z0 = (V.bool (lawSquares u y)).den z0) ((V.bool false).den z0 = (V.bool (lawSquares u y)).den z0)) (mB (eqN 5 (sqrtFO (mulFO y (squareFO u)) y).1 (negFO u)) (mB (!(isOddFO (sqrtFO (mulFO y (squareFO u)) y).1)) ((V.bool countsBO).den z0 = (V.bool (lawSquares u y)).den z0) ((V.bool false).den z0 = (V.bool (lawSquares u y)).den z0)) ((V.bool false).den z0 = (V.bool (lawSquares u y)).den z0))) ((V.bool false).den z0 = (V.bool (lawSquares u y)).den z0)))) (mB (sqrtFO (mulFO y (squareFO u)) y).2 (mB (eqN 5 (sqrtFO (mulFO y (squareFO u)) y).1 (selectFO true u y)) (mB (!(isOddFO (sqrtFO (mulFO y (squareFO u)) y).1)) ((V.bool countsBO).den z0 = (V.bool (lawSquares u y)).den z0) ((V.bool false).den z0 = (V.bool (lawSquares u y)).den z0)) (mB (eqN 5 (sqrtFO (mulFO y (squareFO u)) y).1 (negFO u)) (mB (!(isOddFO (sqrtFO (mulFO y (squareFO u)) y).1)) ((V.bool countsBO).den z0 = (V.bool (lawSquares u y)).den z0) ((V.bool false).den z0 = (V.bool (lawSquares u y)).den z0)) ((V.bool false).den z0 = (V.bool (lawSquares u y)).den z0))) ((V.bool false).den z0 = (V.bool (lawSquares u y)).den z0))))) (mB (!(sqrtFO u y).2) (mB (!(isZeroFO (sqrtFO u y).1)) ((V.bool false).den z0 = (V.bool (lawSquares u y)).den z0) (mB (!(eqN 5 (powFO (mulFO u y) (lawPow 246 63)) (negFO (smallFO 1)))) ((V.bool false).den z0 = (V.bool (lawSquares u y)).den z0) (mB (sqrtFO (mulFO y (squareFO u)) y).2 (mB (eqN 5 (sqrtFO (mulFO y (squareFO u)) y).1 (selectFO true u y)) (mB (!(isOddFO (sqrtFO (mulFO y (squareFO u)) y).1)) ((V.bool countsBO).den z0 = (V.bool (lawSquares u y)).den z0) ((V.bool false).den z0 = (V.bool (lawSquares u y)).den z0)) (mB (eqN 5 (sqrtFO (mulFO y (squareFO u)) y).1 (negFO u)) (mB (!(isOddFO (sqrtFO (mulFO y (squareFO u)) y).1)) ((V.bool countsBO).den z0 = (V.bool (lawSquares u y)).den z0) ((V.bool false).den z0 = (V.bool (lawSquares u y)).den z0)) ((V.bool false).den z0 = (V.bool (lawSquares u y)).den z0))) ((V.bool false).den z0 = (V.bool (lawSquares u y)).den z0)))) (mB (sqrtFO (mulFO y (squareFO u)) y).2 (mB (eqN 5 (sqrtFO (mulFO y (squareFO u)) y).1 (selectFO true u y)) (mB (!(isOddFO (sqrtFO (mulFO y (squareFO u)) y).1)) ((V.bool countsBO).den z0 = (V.bool (lawSquares u y)).den z0) ((V.bool false).den z0 = (V.bool (lawSquares u y)).den z0)) (mB (eqN 5 (sqrtFO (mulFO y (squareFO u)) y).1 (negFO u)) (mB (!(isOddFO (sqrtFO (mulFO y (squareFO u)) y).1)) ((V.bool countsBO).den z0 = (V.bool (lawSquares u y)).den z0) ((V.bool false).den z0 = (V.bool (lawSquares u y)).den z0)) ((V.bool false).den z0 = (V.bool (lawSquares u y)).den z0))) ((V.bool false).den z0 = (V.bool (lawSquares u y)).den z0))))) := by kernel_rfl
theorem lawSquares_a (u : (Nat → Int)) (y : (Nat → Int)) : awp Try.prog o10 noG 300 (body Try.f11) (ends Try.prog Try.f11 fun v _ => okV (V.bool (lawSquares u y)) v) ⟨[(V.ints .u64 5 u), (V.ints .u64 5 y)] ++ List.replicate 89 V.un, []⟩ := by
  rw [lawSquares_t]
  refine mBt (fun h1 => ?_) (fun h1 => ?_)
  · refine mBt (fun h2 => ?_) (fun h2 => ?_)
    · refine mBt (fun h3 => ?_) (fun h3 => ?_)
      · simp only [lawSquares, h1, h2, h3, cond_true]
      · simp only [lawSquares, h1, h2, h3, cond_true, cond_false]
    · simp only [lawSquares, h1, h2, cond_true, cond_false]
  · refine mBt (fun h2 => ?_) (fun h2 => ?_)
    · refine mBt (fun h3 => ?_) (fun h3 => ?_)
      · simp only [lawSquares, h1, h2, h3, cond_true, cond_false]
      · refine mBt (fun h4 => ?_) (fun h4 => ?_)
        · simp only [lawSquares, h1, h2, h3, h4, cond_true, cond_false]
        · refine mBt (fun h5 => ?_) (fun h5 => ?_)
          · refine mBt (fun h6 => ?_) (fun h6 => ?_)
            · simp [h2] at h5
            · refine mBt (fun h7 => ?_) (fun h7 => ?_)
              · simp [h2] at h5
              · refine mBt (fun h8 => ?_) (fun h8 => ?_)
                · refine mBt (fun h9 => ?_) (fun h9 => ?_)
                  · refine mBt (fun h10 => ?_) (fun h10 => ?_)
                    · simp [h2] at h5
                    · simp [h2] at h5
                  · refine mBt (fun h10 => ?_) (fun h10 => ?_)
                    · refine mBt (fun h11 => ?_) (fun h11 => ?_)
                      · simp [h2] at h5
                      · simp [h2] at h5
                    · simp [h2] at h5
                · simp [h2] at h5
          · refine mBt (fun h6 => ?_) (fun h6 => ?_)
            · refine mBt (fun h7 => ?_) (fun h7 => ?_)
              · refine mBt (fun h8 => ?_) (fun h8 => ?_)
                · simp only [lawSquares, h1, h2, h3, h4, h6, h7, h8, cond_true, cond_false, Bool.not_true]
                · simp only [lawSquares, h1, h2, h3, h4, h6, h7, h8, cond_true, cond_false, Bool.not_true]
              · refine mBt (fun h8 => ?_) (fun h8 => ?_)
                · refine mBt (fun h9 => ?_) (fun h9 => ?_)
                  · simp only [lawSquares, h1, h2, h3, h4, h6, h7, h8, h9, cond_true, cond_false, Bool.not_true]
                  · simp only [lawSquares, h1, h2, h3, h4, h6, h7, h8, h9, cond_true, cond_false, Bool.not_true]
                · simp only [lawSquares, h1, h2, h3, h4, h6, h7, h8, cond_true, cond_false, Bool.not_true]
            · simp only [lawSquares, h1, h2, h3, h4, h6, cond_true, cond_false, Bool.not_true]
    · refine mBt (fun h3 => ?_) (fun h3 => ?_)
      · refine mBt (fun h4 => ?_) (fun h4 => ?_)
        · simp only [lawSquares, h1, h2, h4, cond_true, cond_false, Bool.not_false]
        · refine mBt (fun h5 => ?_) (fun h5 => ?_)
          · simp only [lawSquares, h1, h2, h4, h5, cond_true, cond_false, Bool.not_false]
          · refine mBt (fun h6 => ?_) (fun h6 => ?_)
            · refine mBt (fun h7 => ?_) (fun h7 => ?_)
              · refine mBt (fun h8 => ?_) (fun h8 => ?_)
                · simp only [lawSquares, h1, h2, h4, h5, h6, h7, h8, cond_true, cond_false, Bool.not_false]
                · simp only [lawSquares, h1, h2, h4, h5, h6, h7, h8, cond_true, cond_false, Bool.not_false]
              · refine mBt (fun h8 => ?_) (fun h8 => ?_)
                · refine mBt (fun h9 => ?_) (fun h9 => ?_)
                  · simp only [lawSquares, h1, h2, h4, h5, h6, h7, h8, h9, cond_true, cond_false, Bool.not_false]
                  · simp only [lawSquares, h1, h2, h4, h5, h6, h7, h8, h9, cond_true, cond_false, Bool.not_false]
                · simp only [lawSquares, h1, h2, h4, h5, h6, h7, h8, cond_true, cond_false, Bool.not_false]
            · simp only [lawSquares, h1, h2, h4, h5, h6, cond_false, Bool.not_false, cond_true]
      · refine mBt (fun h4 => ?_) (fun h4 => ?_)
        · refine mBt (fun h5 => ?_) (fun h5 => ?_)
          · refine mBt (fun h6 => ?_) (fun h6 => ?_)
            · simp [h2] at h3
            · simp [h2] at h3
          · refine mBt (fun h6 => ?_) (fun h6 => ?_)
            · refine mBt (fun h7 => ?_) (fun h7 => ?_)
              · simp [h2] at h3
              · simp [h2] at h3
            · simp [h2] at h3
        · simp [h2] at h3
noncomputable def g11 : List V → Option (Bool × V) := fun | [.ints .u64 5 u, .ints .u64 5 y] => some (true, (V.bool (lawSquares u y))) | _ => none
theorem lawSquares_p (u : (Nat → Int)) (y : (Nat → Int)) : (∀ μ μ', V.den μ' (V.bool (lawSquares u y)) = V.den μ (V.bool (lawSquares u y))) ∧ ∀ μ w, PureAt Try.prog 11 (([(V.ints .u64 5 u), (V.ints .u64 5 y)] : List V).map (V.den μ)).toArray (V.den μ (V.bool (lawSquares u y))) w :=
  pure_ok (F := o10) (N := 300) (fn := Try.f11) (args := [(V.ints .u64 5 u), (V.ints .u64 5 y)]) (r := (V.bool (lawSquares u y))) (n := 89) hM o10_ok (noG_ok _) Try.func11 (by kernel_rfl) (by kernel_rfl) (by kernel_rfl) (by kernel_rfl) (lawSquares_a u y) (by kernel_rfl)
theorem g11_ok (vs : List V) (v : V) (h : g11 vs = some (true, v)) : (∀ μ μ', v.den μ' = v.den μ) ∧ ∀ μ w, PureAt Try.prog 11 (vs.map (V.den μ)).toArray (v.den μ) w := by
  unfold g11 at h
  split at h
  · simp only [Option.some.injEq, Prod.mk.injEq, true_and] at h
    subst h
    exact lawSquares_p _ _
  · simp at h
noncomputable def o11 : Orc := ext 11 g11 o10
theorem o11_ok : OrcOK Try.prog o11 := ext_ok o10_ok g11_ok
end Go.Proofs.Ytbnclikjbnfodaa
