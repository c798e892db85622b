import Derived.Test.YtbnclikjbnfodaaWO
import Derived.Test.YtbnclikjbnfodaaRows
namespace Go.Proofs.Ytbnclikjbnfodaa
open Go.Ev
/- fareboxlaw05.counts -/
noncomputable def countsB : Bool := (cond (!(eqN 5 (addFO (smallFO 2) (smallFO 3)) (L [5, 0, 0, 0, 0]))) false (cond (!(eqN 5 (mulFO (smallFO 2) (smallFO 3)) (L [6, 0, 0, 0, 0]))) false (cond (eqN 5 (smallFO 1) (L [1, 0, 0, 0, 0])) (cond (isZeroFO (smallFO 0)) (!(isZeroFO (smallFO 3))) false) false)))
theorem countsB_t : awp Try.prog o22O noG 300 (body Try.f50) (ends Try.prog Try.f50 fun v _ => okV (V.bool countsB) v) ⟨[] ++ List.replicate 29 V.un, []⟩ = (mB (!(eqN 5 (addFO (smallFO 2) (smallFO 3)) (L [5, 0, 0, 0, 0]))) ((V.bool false).den z0 = (V.bool countsB).den z0) (mB (!(eqN 5 (mulFO (smallFO 2) (smallFO 3)) (L [6, 0, 0, 0, 0]))) ((V.bool false).den z0 = (V.bool countsB).den z0) (mB (eqN 5 (smallFO 1) (L [1, 0, 0, 0, 0])) (mB (isZeroFO (smallFO 0)) ((V.bool (!(isZeroFO (smallFO 3)))).den z0 = (V.bool countsB).den z0) ((V.bool false).den z0 = (V.bool countsB).den z0)) ((V.bool false).den z0 = (V.bool countsB).den z0)))) := by kernel_rfl
theorem countsB_a : awp Try.prog o22O noG 300 (body Try.f50) (ends Try.prog Try.f50 fun v _ => okV (V.bool countsB) v) ⟨[] ++ List.replicate 29 V.un, []⟩ := by
  rw [countsB_t]
  refine mBt (fun h1 => ?_) (fun h1 => ?_)
  · simp only [countsB, h1, cond_true]
  · refine mBt (fun h2 => ?_) (fun h2 => ?_)
    · simp only [countsB, h1, h2, cond_true, cond_false]
    · refine mBt (fun h3 => ?_) (fun h3 => ?_)
      · refine mBt (fun h4 => ?_) (fun h4 => ?_)
        · simp only [countsB, h1, h2, h3, h4, cond_true, cond_false]
        · simp only [countsB, h1, h2, h3, h4, cond_true, cond_false]
      · simp only [countsB, h1, h2, h3, cond_false]
noncomputable def g50 : List V → Option (Bool × V) := fun | [] => some (true, (V.bool countsB)) | _ => none
theorem countsB_p : (∀ μ μ', V.den μ' (V.bool countsB) = V.den μ (V.bool countsB)) ∧ ∀ μ w, PureAt Try.prog 50 (([] : List V).map (V.den μ)).toArray (V.den μ (V.bool countsB)) w :=
  pure_ok (F := o22O) (N := 300) (fn := Try.f50) (args := []) (r := (V.bool countsB)) (n := 29) hM o22O_ok (noG_ok _) Try.func50 (by kernel_rfl) (by kernel_rfl) (by kernel_rfl) (by kernel_rfl) (countsB_a) (by kernel_rfl)
theorem g50_ok (vs : List V) (v : V) (h : g50 vs = some (true, v)) : (∀ μ μ', v.den μ' = v.den μ) ∧ ∀ μ w, PureAt Try.prog 50 (vs.map (V.den μ)).toArray (v.den μ) w := by
  unfold g50 at h
  split at h
  · simp only [Option.some.injEq, Prod.mk.injEq, true_and] at h
    subst h
    exact countsB_p
  · simp at h
noncomputable def o50 : Orc := ext 50 g50 o22O
theorem o50_ok : OrcOK Try.prog o50 := ext_ok o22O_ok g50_ok

/- fareboxlaw05.FieldRing -/
noncomputable def lawRing (x : (Nat → Int)) (y : (Nat → Int)) (z : (Nat → Int)) : Bool := (cond (!(eqN 5 (addFO x y) (addFO y x))) false (cond (!(eqN 5 (mulFO x y) (mulFO y x))) false (cond (!(eqN 5 (addFO (addFO x y) z) (addFO x (addFO y z)))) false (cond (!(eqN 5 (mulFO (mulFO x y) z) (mulFO x (mulFO y z)))) false (cond (!(eqN 5 (mulFO x (addFO y z)) (addFO (mulFO x y) (mulFO x z)))) false (cond (!(eqN 5 (addFO x (smallFO 0)) (selectFO true x y))) false (cond (!(eqN 5 (mulFO x (smallFO 1)) (selectFO true x y))) false (cond (!(eqN 5 (mulFO x (smallFO 0)) (smallFO 0))) false (cond (!(eqN 5 (addFO x (negFO x)) (smallFO 0))) false (cond (eqN 5 (subFO x y) (addFO x (negFO y))) (cond (eqN 5 (squareFO x) (mulFO x x)) (cond (eqN 5 (negFO (negFO x)) (selectFO true x y)) countsB false) false) false))))))))))
theorem lawRing_t (x : (Nat → Int)) (y : (Nat → Int)) (z : (Nat → Int)) : awp Try.prog o50 noG 300 (body Try.f8) (ends Try.prog Try.f8 fun v _ => okV (V.bool (lawRing x y z)) v) ⟨[(V.ints .u64 5 x), (V.ints .u64 5 y), (V.ints .u64 5 z)] ++ List.replicate 118 V.un, []⟩ = (mB (!(eqN 5 (addFO x y) (addFO y x))) ((V.bool false).den z0 = (V.bool (lawRing x y z)).den z0) (mB (!(eqN 5 (mulFO x y) (mulFO y x))) ((V.bool false).den z0 = (V.bool (lawRing x y z)).den z0) (mB (!(eqN 5 (addFO (addFO x y) z) (addFO x (addFO y z)))) ((V.bool false).den z0 = (V.bool (lawRing x y z)).den z0) (mB (!(eqN 5 (mulFO (mulFO x y) z) (mulFO x (mulFO y z)))) ((V.bool false).den z0 = (V.bool (lawRing x y z)).den z0) (mB (!(eqN 5 (mulFO x (addFO y z)) (addFO (mulFO x y) (mulFO x z)))) ((V.bool false).den z0 = (V.bool (lawRing x y z)).den z0) (mB (!(eqN 5 (addFO x (smallFO 0)) (selectFO true x y))) ((V.bool false).den z0 = (V.bool (lawRing x y z)).den z0) (mB (!(eqN 5 (mulFO x (smallFO 1)) (selectFO true x y))) ((V.bool false).den z0 = (V.bool (lawRing x y z)).den z0) (mB (!(eqN 5 (mulFO x (smallFO 0)) (smallFO 0))) ((V.bool false).den z0 = (V.bool (lawRing x y z)).den z0) (mB (!(eqN 5 (addFO x (negFO x)) (smallFO 0))) ((V.bool false).den z0 = (V.bool (lawRing x y z)).den z0) (mB (eqN 5 (subFO x y) (addFO x (negFO y))) (mB (eqN 5 (squareFO x) (mulFO x x)) (mB (eqN 5 (negFO (negFO x)) (selectFO true x y)) ((V.bool countsB).den z0 = (V.bool (lawRing x y z)).den z0) ((V.bool false).den z0 = (V.bool (lawRing x y z)).den z0)) ((V.bool false).den z0 = (V.bool (lawRing x y z)).den z0)) ((V.bool false).den z0 = (V.bool (lawRing x y z)).den z0))))))))))) := by kernel_rfl
theorem lawRing_a (x : (Nat → Int)) (y : (Nat → Int)) (z : (Nat → Int)) : awp Try.prog o50 noG 300 (body Try.f8) (ends Try.prog Try.f8 fun v _ => okV (V.bool (lawRing x y z)) v) ⟨[(V.ints .u64 5 x), (V.ints .u64 5 y), (V.ints .u64 5 z)] ++ List.replicate 118 V.un, []⟩ := by
  rw [lawRing_t]
  refine mBt (fun h1 => ?_) (fun h1 => ?_)
  · simp only [lawRing, h1, cond_true]
  · refine mBt (fun h2 => ?_) (fun h2 => ?_)
    · simp only [lawRing, h1, h2, cond_true, cond_false]
    · refine mBt (fun h3 => ?_) (fun h3 => ?_)
      · simp only [lawRing, h1, h2, h3, cond_true, cond_false]
      · refine mBt (fun h4 => ?_) (fun h4 => ?_)
        · simp only [lawRing, h1, h2, h3, h4, cond_true, cond_false]
        · refine mBt (fun h5 => ?_) (fun h5 => ?_)
          · simp only [lawRing, h1, h2, h3, h4, h5, cond_true, cond_false]
          · refine mBt (fun h6 => ?_) (fun h6 => ?_)
            · simp only [lawRing, h1, h2, h3, h4, h5, h6, cond_true, cond_false]
            · refine mBt (fun h7 => ?_) (fun h7 => ?_)
              · simp only [lawRing, h1, h2, h3, h4, h5, h6, h7, cond_true, cond_false]
              · refine mBt (fun h8 => ?_) (fun h8 => ?_)
                · simp only [lawRing, h1, h2, h3, h4, h5, h6, h7, h8, cond_true, cond_false]
                · refine mBt (fun h9 => ?_) (fun h9 => ?_)
                  · simp only [lawRing, h1, h2, h3, h4, h5, h6, h7, h8, h9, cond_true, cond_false]
                  · refine mBt (fun h10 => ?_) (fun h10 => ?_)
                    · refine mBt (fun h11 => ?_) (fun h11 => ?_)
                      · refine mBt (fun h12 => ?_) (fun h12 => ?_)
                        · simp only [lawRing, h1, h2, h3, h4, h5, h6, h7, h8, h9, h10, h11, h12, cond_true, cond_false]
                        · simp only [lawRing, h1, h2, h3, h4, h5, h6, h7, h8, h9, h10, h11, h12, cond_true, cond_false]
                      · simp only [lawRing, h1, h2, h3, h4, h5, h6, h7, h8, h9, h10, h11, cond_true, cond_false]
                    · simp only [lawRing, h1, h2, h3, h4, h5, h6, h7, h8, h9, h10, cond_false]
noncomputable def g8 : List V → Option (Bool × V) := fun | [.ints .u64 5 x, .ints .u64 5 y, .ints .u64 5 z] => some (true, (V.bool (lawRing x y z))) | _ => none
theorem lawRing_p (x : (Nat → Int)) (y : (Nat → Int)) (z : (Nat → Int)) : (∀ μ μ', V.den μ' (V.bool (lawRing x y z)) = V.den μ (V.bool (lawRing x y z))) ∧ ∀ μ w, PureAt Try.prog 8 (([(V.ints .u64 5 x), (V.ints .u64 5 y), (V.ints .u64 5 z)] : List V).map (V.den μ)).toArray (V.den μ (V.bool (lawRing x y z))) w :=
  pure_ok (F := o50) (N := 300) (fn := Try.f8) (args := [(V.ints .u64 5 x), (V.ints .u64 5 y), (V.ints .u64 5 z)]) (r := (V.bool (lawRing x y z))) (n := 118) hM o50_ok (noG_ok _) Try.func8 (by kernel_rfl) (by kernel_rfl) (by kernel_rfl) (by kernel_rfl) (lawRing_a x y z) (by kernel_rfl)
theorem g8_ok (vs : List V) (v : V) (h : g8 vs = some (true, v)) : (∀ μ μ', v.den μ' = v.den μ) ∧ ∀ μ w, PureAt Try.prog 8 (vs.map (V.den μ)).toArray (v.den μ) w := by
  unfold g8 at h
  split at h
  · simp only [Option.some.injEq, Prod.mk.injEq, true_and] at h
    subst h
    exact lawRing_p _ _ _
  · simp at h
noncomputable def o8 : Orc := ext 8 g8 o50
theorem o8_ok : OrcOK Try.prog o8 := ext_ok o50_ok g8_ok
end Go.Proofs.Ytbnclikjbnfodaa
