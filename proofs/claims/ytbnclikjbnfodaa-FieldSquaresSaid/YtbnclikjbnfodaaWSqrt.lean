import Derived.Test.YtbnclikjbnfodaaWInverse
import Derived.Test.YtbnclikjbnfodaaRows
namespace Go.Proofs.Ytbnclikjbnfodaa
open Go.Ev
/- field.SqrtRatio -/
noncomputable def sqrtF (u : (Nat → Int)) (y : (Nat → Int)) : ((Nat → Int) × Bool) := (cond (isZeroFO y) ((fun _ => 0), (isZeroFO u)) (cond (equalFO (mulFO y (squareFO (mulFO (mulFO u (mulFO (squareFO y) y)) (powFO (mulFO (mulFO u (squareFO (mulFO (squareFO y) y))) y) (power255 253 15))))) u) ((selectFO (isOddFO (mulFO (mulFO u (mulFO (squareFO y) y)) (powFO (mulFO (mulFO u (squareFO (mulFO (squareFO y) y))) y) (power255 253 15)))) (negFO (mulFO (mulFO u (mulFO (squareFO y) y)) (powFO (mulFO (mulFO u (squareFO (mulFO (squareFO y) y))) y) (power255 253 15)))) (mulFO (mulFO u (mulFO (squareFO y) y)) (powFO (mulFO (mulFO u (squareFO (mulFO (squareFO y) y))) y) (power255 253 15)))), true) (cond (equalFO (mulFO y (squareFO (mulFO (mulFO u (mulFO (squareFO y) y)) (powFO (mulFO (mulFO u (squareFO (mulFO (squareFO y) y))) y) (power255 253 15))))) (negFO u)) ((selectFO (isOddFO (mulFO (mulFO (mulFO u (mulFO (squareFO y) y)) (powFO (mulFO (mulFO u (squareFO (mulFO (squareFO y) y))) y) (power255 253 15))) (powFO (smallFO 2) (power255 251 31)))) (negFO (mulFO (mulFO (mulFO u (mulFO (squareFO y) y)) (powFO (mulFO (mulFO u (squareFO (mulFO (squareFO y) y))) y) (power255 253 15))) (powFO (smallFO 2) (power255 251 31)))) (mulFO (mulFO (mulFO u (mulFO (squareFO y) y)) (powFO (mulFO (mulFO u (squareFO (mulFO (squareFO y) y))) y) (power255 253 15))) (powFO (smallFO 2) (power255 251 31)))), true) ((fun _ => 0), false))))
theorem sqrtF_t (u : (Nat → Int)) (y : (Nat → Int)) : awp Try.prog o51 noG 300 (body Try.f52) (ends Try.prog Try.f52 fun v _ => okV (V.tup [(V.ints .u64 5 (sqrtF u y).1), (V.bool (sqrtF u y).2)]) v) ⟨[(V.ints .u64 5 u), (V.ints .u64 5 y)] ++ List.replicate 55 V.un, []⟩ = (mB (isZeroFO y) ((V.tup [(V.ints .u64 5 (fun _ => 0)), (V.bool (isZeroFO u))]).den z0 = (V.tup [(V.ints .u64 5 (sqrtF u y).1), (V.bool (sqrtF u y).2)]).den z0) (mB (equalFO (mulFO y (squareFO (mulFO (mulFO u (mulFO (squareFO y) y)) (powFO (mulFO (mulFO u (squareFO (mulFO (squareFO y) y))) y) (power255 253 15))))) u) ((V.tup [(V.ints .u64 5 (selectFO (isOddFO (mulFO (mulFO u (mulFO (squareFO y) y)) (powFO (mulFO (mulFO u (squareFO (mulFO (squareFO y) y))) y) (power255 253 15)))) (negFO (mulFO (mulFO u (mulFO (squareFO y) y)) (powFO (mulFO (mulFO u (squareFO (mulFO (squareFO y) y))) y) (power255 253 15)))) (mulFO (mulFO u (mulFO (squareFO y) y)) (powFO (mulFO (mulFO u (squareFO (mulFO (squareFO y) y))) y) (power255 253 15))))), (V.bool true)]).den z0 = (V.tup [(V.ints .u64 5 (sqrtF u y).1), (V.bool (sqrtF u y).2)]).den z0) (mB (equalFO (mulFO y (squareFO (mulFO (mulFO u (mulFO (squareFO y) y)) (powFO (mulFO (mulFO u (squareFO (mulFO (squareFO y) y))) y) (power255 253 15))))) (negFO u)) ((V.tup [(V.ints .u64 5 (selectFO (isOddFO (mulFO (mulFO (mulFO u (mulFO (squareFO y) y)) (powFO (mulFO (mulFO u (squareFO (mulFO (squareFO y) y))) y) (power255 253 15))) (powFO (smallFO 2) (power255 251 31)))) (negFO (mulFO (mulFO (mulFO u (mulFO (squareFO y) y)) (powFO (mulFO (mulFO u (squareFO (mulFO (squareFO y) y))) y) (power255 253 15))) (powFO (smallFO 2) (power255 251 31)))) (mulFO (mulFO (mulFO u (mulFO (squareFO y) y)) (powFO (mulFO (mulFO u (squareFO (mulFO (squareFO y) y))) y) (power255 253 15))) (powFO (smallFO 2) (power255 251 31))))), (V.bool true)]).den z0 = (V.tup [(V.ints .u64 5 (sqrtF u y).1), (V.bool (sqrtF u y).2)]).den z0) ((V.tup [(V.ints .u64 5 (fun _ => 0)), (V.bool false)]).den z0 = (V.tup [(V.ints .u64 5 (sqrtF u y).1), (V.bool (sqrtF u y).2)]).den z0)))) := by kernel_rfl
theorem sqrtF_a (u : (Nat → Int)) (y : (Nat → Int)) : awp Try.prog o51 noG 300 (body Try.f52) (ends Try.prog Try.f52 fun v _ => okV (V.tup [(V.ints .u64 5 (sqrtF u y).1), (V.bool (sqrtF u y).2)]) v) ⟨[(V.ints .u64 5 u), (V.ints .u64 5 y)] ++ List.replicate 55 V.un, []⟩ := by
  rw [sqrtF_t]
  refine mBt (fun h1 => ?_) (fun h1 => ?_)
  · simp only [sqrtF, h1, cond_true]
  · refine mBt (fun h2 => ?_) (fun h2 => ?_)
    · simp only [sqrtF, h1, h2, cond_true, cond_false]
    · refine mBt (fun h3 => ?_) (fun h3 => ?_)
      · simp only [sqrtF, h1, h2, h3, cond_true, cond_false]
      · simp only [sqrtF, h1, h2, h3, cond_false]
noncomputable def g52 : List V → Option (Bool × V) := fun | [.ints .u64 5 u, .ints .u64 5 y] => some (true, (V.tup [(V.ints .u64 5 (sqrtF u y).1), (V.bool (sqrtF u y).2)])) | _ => none
theorem sqrtF_p (u : (Nat → Int)) (y : (Nat → Int)) : (∀ μ μ', V.den μ' (V.tup [(V.ints .u64 5 (sqrtF u y).1), (V.bool (sqrtF u y).2)]) = V.den μ (V.tup [(V.ints .u64 5 (sqrtF u y).1), (V.bool (sqrtF u y).2)])) ∧ ∀ μ w, PureAt Try.prog 52 (([(V.ints .u64 5 u), (V.ints .u64 5 y)] : List V).map (V.den μ)).toArray (V.den μ (V.tup [(V.ints .u64 5 (sqrtF u y).1), (V.bool (sqrtF u y).2)])) w :=
  pure_ok (F := o51) (N := 300) (fn := Try.f52) (args := [(V.ints .u64 5 u), (V.ints .u64 5 y)]) (r := (V.tup [(V.ints .u64 5 (sqrtF u y).1), (V.bool (sqrtF u y).2)])) (n := 55) hM o51_ok (noG_ok _) Try.func52 (by kernel_rfl) (by kernel_rfl) (by kernel_rfl) (by kernel_rfl) (sqrtF_a u y) (by kernel_rfl)
theorem g52_ok (vs : List V) (v : V) (h : g52 vs = some (true, v)) : (∀ μ μ', v.den μ' = v.den μ) ∧ ∀ μ w, PureAt Try.prog 52 (vs.map (V.den μ)).toArray (v.den μ) w := by
  unfold g52 at h
  split at h
  · simp only [Option.some.injEq, Prod.mk.injEq, true_and] at h
    subst h
    exact sqrtF_p _ _
  · simp at h
noncomputable def o52 : Orc := ext 52 g52 o51
theorem o52_ok : OrcOK Try.prog o52 := ext_ok o51_ok g52_ok

theorem rMulO_ex : ∃ f : (Nat → Int) → (Nat → Int) → (Nat → Int), f = rMul := ⟨_, rfl⟩
/-- rMul, by a name that is not unfolded. -/
noncomputable def rMulO : (Nat → Int) → (Nat → Int) → (Nat → Int) := Classical.choose rMulO_ex
theorem rMulO_eq : rMulO = rMul := Classical.choose_spec rMulO_ex
noncomputable def g44O : List V → Option (Bool × V) := fun | [.ints .u64 10 a, .ints .u64 10 b] => some (true, (V.ints .u64 10 (rMulO a b))) | _ => none
theorem g44O_ok (vs : List V) (v : V) (h : g44O vs = some (true, v)) : (∀ μ μ', v.den μ' = v.den μ) ∧ ∀ μ w, PureAt Try.prog 44 (vs.map (V.den μ)).toArray (v.den μ) w := by
  unfold g44O at h
  split at h
  · simp only [Option.some.injEq, Prod.mk.injEq, true_and] at h
    subst h
    rw [rMulO_eq]
    exact rMul_p _ _
  · simp at h
noncomputable def o44O : Orc := ext 44 g44O o52
theorem o44O_ok : OrcOK Try.prog o44O := ext_ok o52_ok g44O_ok

theorem rIsZeroO_ex : ∃ f : (Nat → Int) → Bool, f = rIsZero := ⟨_, rfl⟩
/-- rIsZero, by a name that is not unfolded. -/
noncomputable def rIsZeroO : (Nat → Int) → Bool := Classical.choose rIsZeroO_ex
theorem rIsZeroO_eq : rIsZeroO = rIsZero := Classical.choose_spec rIsZeroO_ex
noncomputable def g24O : List V → Option (Bool × V) := fun | [.ints .u64 10 a] => some (true, (V.bool (rIsZeroO a))) | _ => none
theorem g24O_ok (vs : List V) (v : V) (h : g24O vs = some (true, v)) : (∀ μ μ', v.den μ' = v.den μ) ∧ ∀ μ w, PureAt Try.prog 24 (vs.map (V.den μ)).toArray (v.den μ) w := by
  unfold g24O at h
  split at h
  · simp only [Option.some.injEq, Prod.mk.injEq, true_and] at h
    subst h
    rw [rIsZeroO_eq]
    exact rIsZero_p _
  · simp at h
noncomputable def o24O : Orc := ext 24 g24O o44O
theorem o24O_ok : OrcOK Try.prog o24O := ext_ok o44O_ok g24O_ok

theorem rIsOddO_ex : ∃ f : (Nat → Int) → Bool, f = rIsOdd := ⟨_, rfl⟩
/-- rIsOdd, by a name that is not unfolded. -/
noncomputable def rIsOddO : (Nat → Int) → Bool := Classical.choose rIsOddO_ex
theorem rIsOddO_eq : rIsOddO = rIsOdd := Classical.choose_spec rIsOddO_ex
noncomputable def g26O : List V → Option (Bool × V) := fun | [.ints .u64 10 a] => some (true, (V.bool (rIsOddO a))) | _ => none
theorem g26O_ok (vs : List V) (v : V) (h : g26O vs = some (true, v)) : (∀ μ μ', v.den μ' = v.den μ) ∧ ∀ μ w, PureAt Try.prog 26 (vs.map (V.den μ)).toArray (v.den μ) w := by
  unfold g26O at h
  split at h
  · simp only [Option.some.injEq, Prod.mk.injEq, true_and] at h
    subst h
    rw [rIsOddO_eq]
    exact rIsOdd_p _
  · simp at h
noncomputable def o26O : Orc := ext 26 g26O o24O
theorem o26O_ok : OrcOK Try.prog o26O := ext_ok o24O_ok g26O_ok

theorem rNegO_ex : ∃ f : (Nat → Int) → (Nat → Int), f = rNeg := ⟨_, rfl⟩
/-- rNeg, by a name that is not unfolded. -/
noncomputable def rNegO : (Nat → Int) → (Nat → Int) := Classical.choose rNegO_ex
theorem rNegO_eq : rNegO = rNeg := Classical.choose_spec rNegO_ex
noncomputable def g34O : List V → Option (Bool × V) := fun | [.ints .u64 10 a] => some (true, (V.ints .u64 10 (rNegO a))) | _ => none
theorem g34O_ok (vs : List V) (v : V) (h : g34O vs = some (true, v)) : (∀ μ μ', v.den μ' = v.den μ) ∧ ∀ μ w, PureAt Try.prog 34 (vs.map (V.den μ)).toArray (v.den μ) w := by
  unfold g34O at h
  split at h
  · simp only [Option.some.injEq, Prod.mk.injEq, true_and] at h
    subst h
    rw [rNegO_eq]
    exact rNeg_p _
  · simp at h
noncomputable def o34O : Orc := ext 34 g34O o26O
theorem o34O_ok : OrcOK Try.prog o34O := ext_ok o26O_ok g34O_ok

theorem rSmallO_ex : ∃ f : Int → (Nat → Int), f = rSmall := ⟨_, rfl⟩
/-- rSmall, by a name that is not unfolded. -/
noncomputable def rSmallO : Int → (Nat → Int) := Classical.choose rSmallO_ex
theorem rSmallO_eq : rSmallO = rSmall := Classical.choose_spec rSmallO_ex
noncomputable def g42O : List V → Option (Bool × V) := fun | [.int .u64 n] => some (true, (V.ints .u64 10 (rSmallO n))) | _ => none
theorem g42O_ok (vs : List V) (v : V) (h : g42O vs = some (true, v)) : (∀ μ μ', v.den μ' = v.den μ) ∧ ∀ μ w, PureAt Try.prog 42 (vs.map (V.den μ)).toArray (v.den μ) w := by
  unfold g42O at h
  split at h
  · simp only [Option.some.injEq, Prod.mk.injEq, true_and] at h
    subst h
    rw [rSmallO_eq]
    exact rSmall_p _
  · simp at h
noncomputable def o42O : Orc := ext 42 g42O o34O
theorem o42O_ok : OrcOK Try.prog o42O := ext_ok o34O_ok g42O_ok

/- fareboxref05.even -/
noncomputable def rEven (a : (Nat → Int)) : (Nat → Int) := (cond (rIsOddO a) (rNegO a) a)
theorem rEven_t (a : (Nat → Int)) : awp Try.prog o42O noG 300 (body Try.f92) (ends Try.prog Try.f92 fun v _ => okV (V.ints .u64 10 (rEven a)) v) ⟨[(V.ints .u64 10 a)] ++ List.replicate 7 V.un, []⟩ = (mB (rIsOddO a) ((V.ints .u64 10 (rNegO a)).den z0 = (V.ints .u64 10 (rEven a)).den z0) ((V.ints .u64 10 a).den z0 = (V.ints .u64 10 (rEven a)).den z0)) := by kernel_rfl
theorem rEven_a (a : (Nat → Int)) : awp Try.prog o42O noG 300 (body Try.f92) (ends Try.prog Try.f92 fun v _ => okV (V.ints .u64 10 (rEven a)) v) ⟨[(V.ints .u64 10 a)] ++ List.replicate 7 V.un, []⟩ := by
  rw [rEven_t]
  refine mBt (fun h1 => ?_) (fun h1 => ?_)
  · simp only [rEven, h1, cond_true]
  · simp only [rEven, h1, cond_false]
noncomputable def g92 : List V → Option (Bool × V) := fun | [.ints .u64 10 a] => some (true, (V.ints .u64 10 (rEven a))) | _ => none
theorem rEven_p (a : (Nat → Int)) : (∀ μ μ', V.den μ' (V.ints .u64 10 (rEven a)) = V.den μ (V.ints .u64 10 (rEven a))) ∧ ∀ μ w, PureAt Try.prog 92 (([(V.ints .u64 10 a)] : List V).map (V.den μ)).toArray (V.den μ (V.ints .u64 10 (rEven a))) w :=
  pure_ok (F := o42O) (N := 300) (fn := Try.f92) (args := [(V.ints .u64 10 a)]) (r := (V.ints .u64 10 (rEven a))) (n := 7) hM o42O_ok (noG_ok _) Try.func92 (by kernel_rfl) (by kernel_rfl) (by kernel_rfl) (by kernel_rfl) (rEven_a a) (by kernel_rfl)
theorem g92_ok (vs : List V) (v : V) (h : g92 vs = some (true, v)) : (∀ μ μ', v.den μ' = v.den μ) ∧ ∀ μ w, PureAt Try.prog 92 (vs.map (V.den μ)).toArray (v.den μ) w := by
  unfold g92 at h
  split at h
  · simp only [Option.some.injEq, Prod.mk.injEq, true_and] at h
    subst h
    exact rEven_p _
  · simp at h
noncomputable def o92 : Orc := ext 92 g92 o42O
theorem o92_ok : OrcOK Try.prog o92 := ext_ok o42O_ok g92_ok

theorem rEvenO_ex : ∃ f : (Nat → Int) → (Nat → Int), f = rEven := ⟨_, rfl⟩
/-- rEven, by a name that is not unfolded. -/
noncomputable def rEvenO : (Nat → Int) → (Nat → Int) := Classical.choose rEvenO_ex
theorem rEvenO_eq : rEvenO = rEven := Classical.choose_spec rEvenO_ex
noncomputable def g92O : List V → Option (Bool × V) := fun | [.ints .u64 10 a] => some (true, (V.ints .u64 10 (rEvenO a))) | _ => none
theorem g92O_ok (vs : List V) (v : V) (h : g92O vs = some (true, v)) : (∀ μ μ', v.den μ' = v.den μ) ∧ ∀ μ w, PureAt Try.prog 92 (vs.map (V.den μ)).toArray (v.den μ) w := by
  unfold g92O at h
  split at h
  · simp only [Option.some.injEq, Prod.mk.injEq, true_and] at h
    subst h
    rw [rEvenO_eq]
    exact rEven_p _
  · simp at h
noncomputable def o92O : Orc := ext 92 g92O o92
theorem o92O_ok : OrcOK Try.prog o92O := ext_ok o92_ok g92O_ok

/- fareboxref05.SqrtRatio -/
noncomputable def rSqrt (u : (Nat → Int)) (y : (Nat → Int)) : ((Nat → Int) × Bool) := (cond (rIsZeroO y) ((fun _ => 0), (rIsZeroO u)) (cond (eqN 10 (rMulO (rPowO (rMulO u (rInvertO y)) (rPower 254 15)) (rPowO (rMulO u (rInvertO y)) (rPower 254 15))) (rMulO u (rInvertO y))) ((rEvenO (rPowO (rMulO u (rInvertO y)) (rPower 254 15))), true) (cond (eqN 10 (rMulO (rMulO (rPowO (rMulO u (rInvertO y)) (rPower 254 15)) (rPowO (rSmallO 2) (rPower 251 31))) (rMulO (rPowO (rMulO u (rInvertO y)) (rPower 254 15)) (rPowO (rSmallO 2) (rPower 251 31)))) (rMulO u (rInvertO y))) ((rEvenO (rMulO (rPowO (rMulO u (rInvertO y)) (rPower 254 15)) (rPowO (rSmallO 2) (rPower 251 31)))), true) ((fun _ => 0), false))))
theorem rSqrt_t (u : (Nat → Int)) (y : (Nat → Int)) : awp Try.prog o92O noG 300 (body Try.f53) (ends Try.prog Try.f53 fun v _ => okV (V.tup [(V.ints .u64 10 (rSqrt u y).1), (V.bool (rSqrt u y).2)]) v) ⟨[(V.ints .u64 10 u), (V.ints .u64 10 y)] ++ List.replicate 38 V.un, []⟩ = (mB (rIsZeroO y) ((V.tup [(V.ints .u64 10 (fun _ => 0)), (V.bool (rIsZeroO u))]).den z0 = (V.tup [(V.ints .u64 10 (rSqrt u y).1), (V.bool (rSqrt u y).2)]).den z0) (mB (eqN 10 (rMulO (rPowO (rMulO u (rInvertO y)) (rPower 254 15)) (rPowO (rMulO u (rInvertO y)) (rPower 254 15))) (rMulO u (rInvertO y))) ((V.tup [(V.ints .u64 10 (rEvenO (rPowO (rMulO u (rInvertO y)) (rPower 254 15)))), (V.bool true)]).den z0 = (V.tup [(V.ints .u64 10 (rSqrt u y).1), (V.bool (rSqrt u y).2)]).den z0) (mB (eqN 10 (rMulO (rMulO (rPowO (rMulO u (rInvertO y)) (rPower 254 15)) (rPowO (rSmallO 2) (rPower 251 31))) (rMulO (rPowO (rMulO u (rInvertO y)) (rPower 254 15)) (rPowO (rSmallO 2) (rPower 251 31)))) (rMulO u (rInvertO y))) ((V.tup [(V.ints .u64 10 (rEvenO (rMulO (rPowO (rMulO u (rInvertO y)) (rPower 254 15)) (rPowO (rSmallO 2) (rPower 251 31))))), (V.bool true)]).den z0 = (V.tup [(V.ints .u64 10 (rSqrt u y).1), (V.bool (rSqrt u y).2)]).den z0) ((V.tup [(V.ints .u64 10 (fun _ => 0)), (V.bool false)]).den z0 = (V.tup [(V.ints .u64 10 (rSqrt u y).1), (V.bool (rSqrt u y).2)]).den z0)))) := by kernel_rfl
theorem rSqrt_a (u : (Nat → Int)) (y : (Nat → Int)) : awp Try.prog o92O noG 300 (body Try.f53) (ends Try.prog Try.f53 fun v _ => okV (V.tup [(V.ints .u64 10 (rSqrt u y).1), (V.bool (rSqrt u y).2)]) v) ⟨[(V.ints .u64 10 u), (V.ints .u64 10 y)] ++ List.replicate 38 V.un, []⟩ := by
  rw [rSqrt_t]
  refine mBt (fun h1 => ?_) (fun h1 => ?_)
  · simp only [rSqrt, h1, cond_true]
  · refine mBt (fun h2 => ?_) (fun h2 => ?_)
    · simp only [rSqrt, h1, h2, cond_true, cond_false]
    · refine mBt (fun h3 => ?_) (fun h3 => ?_)
      · simp only [rSqrt, h1, h2, h3, cond_true, cond_false]
      · simp only [rSqrt, h1, h2, h3, cond_false]
noncomputable def g53 : List V → Option (Bool × V) := fun | [.ints .u64 10 u, .ints .u64 10 y] => some (true, (V.tup [(V.ints .u64 10 (rSqrt u y).1), (V.bool (rSqrt u y).2)])) | _ => none
theorem rSqrt_p (u : (Nat → Int)) (y : (Nat → Int)) : (∀ μ μ', V.den μ' (V.tup [(V.ints .u64 10 (rSqrt u y).1), (V.bool (rSqrt u y).2)]) = V.den μ (V.tup [(V.ints .u64 10 (rSqrt u y).1), (V.bool (rSqrt u y).2)])) ∧ ∀ μ w, PureAt Try.prog 53 (([(V.ints .u64 10 u), (V.ints .u64 10 y)] : List V).map (V.den μ)).toArray (V.den μ (V.tup [(V.ints .u64 10 (rSqrt u y).1), (V.bool (rSqrt u y).2)])) w :=
  pure_ok (F := o92O) (N := 300) (fn := Try.f53) (args := [(V.ints .u64 10 u), (V.ints .u64 10 y)]) (r := (V.tup [(V.ints .u64 10 (rSqrt u y).1), (V.bool (rSqrt u y).2)])) (n := 38) hM o92O_ok (noG_ok _) Try.func53 (by kernel_rfl) (by kernel_rfl) (by kernel_rfl) (by kernel_rfl) (rSqrt_a u y) (by kernel_rfl)
theorem g53_ok (vs : List V) (v : V) (h : g53 vs = some (true, v)) : (∀ μ μ', v.den μ' = v.den μ) ∧ ∀ μ w, PureAt Try.prog 53 (vs.map (V.den μ)).toArray (v.den μ) w := by
  unfold g53 at h
  split at h
  · simp only [Option.some.injEq, Prod.mk.injEq, true_and] at h
    subst h
    exact rSqrt_p _ _
  · simp at h
noncomputable def o53 : Orc := ext 53 g53 o92O
theorem o53_ok : OrcOK Try.prog o53 := ext_ok o92O_ok g53_ok

theorem sqrtFO_ex : ∃ f : (Nat → Int) → (Nat → Int) → ((Nat → Int) × Bool), f = sqrtF := ⟨_, rfl⟩
/-- sqrtF, by a name that is not unfolded. -/
noncomputable def sqrtFO : (Nat → Int) → (Nat → Int) → ((Nat → Int) × Bool) := Classical.choose sqrtFO_ex
theorem sqrtFO_eq : sqrtFO = sqrtF := Classical.choose_spec sqrtFO_ex
noncomputable def g52O : List V → Option (Bool × V) := fun | [.ints .u64 5 u, .ints .u64 5 y] => some (true, (V.tup [(V.ints .u64 5 (sqrtFO u y).1), (V.bool (sqrtFO u y).2)])) | _ => none
theorem g52O_ok (vs : List V) (v : V) (h : g52O vs = some (true, v)) : (∀ μ μ', v.den μ' = v.den μ) ∧ ∀ μ w, PureAt Try.prog 52 (vs.map (V.den μ)).toArray (v.den μ) w := by
  unfold g52O at h
  split at h
  · simp only [Option.some.injEq, Prod.mk.injEq, true_and] at h
    subst h
    rw [sqrtFO_eq]
    exact sqrtF_p _ _
  · simp at h
noncomputable def o52O : Orc := ext 52 g52O o53
theorem o52O_ok : OrcOK Try.prog o52O := ext_ok o53_ok g52O_ok

theorem rSqrtO_ex : ∃ f : (Nat → Int) → (Nat → Int) → ((Nat → Int) × Bool), f = rSqrt := ⟨_, rfl⟩
/-- rSqrt, by a name that is not unfolded. -/
noncomputable def rSqrtO : (Nat → Int) → (Nat → Int) → ((Nat → Int) × Bool) := Classical.choose rSqrtO_ex
theorem rSqrtO_eq : rSqrtO = rSqrt := Classical.choose_spec rSqrtO_ex
noncomputable def g53O : List V → Option (Bool × V) := fun | [.ints .u64 10 u, .ints .u64 10 y] => some (true, (V.tup [(V.ints .u64 10 (rSqrtO u y).1), (V.bool (rSqrtO u y).2)])) | _ => none
theorem g53O_ok (vs : List V) (v : V) (h : g53O vs = some (true, v)) : (∀ μ μ', v.den μ' = v.den μ) ∧ ∀ μ w, PureAt Try.prog 53 (vs.map (V.den μ)).toArray (v.den μ) w := by
  unfold g53O at h
  split at h
  · simp only [Option.some.injEq, Prod.mk.injEq, true_and] at h
    subst h
    rw [rSqrtO_eq]
    exact rSqrt_p _ _
  · simp at h
noncomputable def o53O : Orc := ext 53 g53O o52O
theorem o53O_ok : OrcOK Try.prog o53O := ext_ok o52O_ok g53O_ok
end Go.Proofs.Ytbnclikjbnfodaa
