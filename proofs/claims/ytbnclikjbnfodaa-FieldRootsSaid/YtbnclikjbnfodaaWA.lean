import Derived.Test.YtbnclikjbnfodaaEvI
import Derived.Test.YtbnclikjbnfodaaRows
namespace Go.Proofs.Ytbnclikjbnfodaa
open Go.Ev
theorem hM : Try.prog.follows .mixedOrders = true := by kernel_rfl
theorem orc0_ok : OrcOK Try.prog orc0 := Go.Ev.orc0_ok _
/- field.carry -/
def carryF (x : (Nat → Int)) : (Nat → Int) := (L [(addI .u64 (andI .u64 (x 0) 2251799813685247) (mulI .u64 (shrI .u64 (x 4) 51) 19)), (addI .u64 (andI .u64 (x 1) 2251799813685247) (shrI .u64 (x 0) 51)), (addI .u64 (andI .u64 (x 2) 2251799813685247) (shrI .u64 (x 1) 51)), (addI .u64 (andI .u64 (x 3) 2251799813685247) (shrI .u64 (x 2) 51)), (addI .u64 (andI .u64 (x 4) 2251799813685247) (shrI .u64 (x 3) 51))])
theorem carryF_t (x : (Nat → Int)) : awp Try.prog orc0 noG 300 (body Try.f84) (ends Try.prog Try.f84 fun v _ => okV (V.ints .u64 5 (carryF x)) v) ⟨[(V.ints .u64 5 x)] ++ List.replicate 39 V.un, []⟩ = ((V.ints .u64 5 (carryF x)).den z0 = (V.ints .u64 5 (carryF x)).den z0) := by kernel_rfl
theorem carryF_a (x : (Nat → Int)) : awp Try.prog orc0 noG 300 (body Try.f84) (ends Try.prog Try.f84 fun v _ => okV (V.ints .u64 5 (carryF x)) v) ⟨[(V.ints .u64 5 x)] ++ List.replicate 39 V.un, []⟩ := by rw [carryF_t]
def g84 : List V → Option (Bool × V) := fun | [.ints .u64 5 x] => some (true, (V.ints .u64 5 (carryF x))) | _ => none
theorem carryF_p (x : (Nat → Int)) : (∀ μ μ', V.den μ' (V.ints .u64 5 (carryF x)) = V.den μ (V.ints .u64 5 (carryF x))) ∧ ∀ μ w, PureAt Try.prog 84 (([(V.ints .u64 5 x)] : List V).map (V.den μ)).toArray (V.den μ (V.ints .u64 5 (carryF x))) w :=
  pure_ok (F := orc0) (N := 300) (fn := Try.f84) (args := [(V.ints .u64 5 x)]) (r := (V.ints .u64 5 (carryF x))) (n := 39) hM orc0_ok (noG_ok _) Try.func84 (by kernel_rfl) (by kernel_rfl) (by kernel_rfl) (by kernel_rfl) (carryF_a x) (by kernel_rfl)
theorem g84_ok (vs : List V) (v : V) (h : g84 vs = some (true, v)) : (∀ μ μ', v.den μ' = v.den μ) ∧ ∀ μ w, PureAt Try.prog 84 (vs.map (V.den μ)).toArray (v.den μ) w := by
  unfold g84 at h
  split at h
  · simp only [Option.some.injEq, Prod.mk.injEq, true_and] at h
    subst h
    exact carryF_p _
  · simp at h
def o84 : Orc := ext 84 g84 orc0
theorem o84_ok : OrcOK Try.prog o84 := ext_ok orc0_ok g84_ok

/- field.reduce -/
def reduceF (x : (Nat → Int)) : (Nat → Int) := (L [(andI .u64 (addI .u64 ((carryF (carryF x)) 0) (mulI .u64 19 (shrI .u64 (addI .u64 ((carryF (carryF x)) 4) (shrI .u64 (addI .u64 ((carryF (carryF x)) 3) (shrI .u64 (addI .u64 ((carryF (carryF x)) 2) (shrI .u64 (addI .u64 ((carryF (carryF x)) 1) (shrI .u64 (addI .u64 ((carryF (carryF x)) 0) 19) 51)) 51)) 51)) 51)) 51))) 2251799813685247), (andI .u64 (addI .u64 ((carryF (carryF x)) 1) (shrI .u64 (addI .u64 ((carryF (carryF x)) 0) (mulI .u64 19 (shrI .u64 (addI .u64 ((carryF (carryF x)) 4) (shrI .u64 (addI .u64 ((carryF (carryF x)) 3) (shrI .u64 (addI .u64 ((carryF (carryF x)) 2) (shrI .u64 (addI .u64 ((carryF (carryF x)) 1) (shrI .u64 (addI .u64 ((carryF (carryF x)) 0) 19) 51)) 51)) 51)) 51)) 51))) 51)) 2251799813685247), (andI .u64 (addI .u64 ((carryF (carryF x)) 2) (shrI .u64 (addI .u64 ((carryF (carryF x)) 1) (shrI .u64 (addI .u64 ((carryF (carryF x)) 0) (mulI .u64 19 (shrI .u64 (addI .u64 ((carryF (carryF x)) 4) (shrI .u64 (addI .u64 ((carryF (carryF x)) 3) (shrI .u64 (addI .u64 ((carryF (carryF x)) 2) (shrI .u64 (addI .u64 ((carryF (carryF x)) 1) (shrI .u64 (addI .u64 ((carryF (carryF x)) 0) 19) 51)) 51)) 51)) 51)) 51))) 51)) 51)) 2251799813685247), (andI .u64 (addI .u64 ((carryF (carryF x)) 3) (shrI .u64 (addI .u64 ((carryF (carryF x)) 2) (shrI .u64 (addI .u64 ((carryF (carryF x)) 1) (shrI .u64 (addI .u64 ((carryF (carryF x)) 0) (mulI .u64 19 (shrI .u64 (addI .u64 ((carryF (carryF x)) 4) (shrI .u64 (addI .u64 ((carryF (carryF x)) 3) (shrI .u64 (addI .u64 ((carryF (carryF x)) 2) (shrI .u64 (addI .u64 ((carryF (carryF x)) 1) (shrI .u64 (addI .u64 ((carryF (carryF x)) 0) 19) 51)) 51)) 51)) 51)) 51))) 51)) 51)) 51)) 2251799813685247), (andI .u64 (addI .u64 ((carryF (carryF x)) 4) (shrI .u64 (addI .u64 ((carryF (carryF x)) 3) (shrI .u64 (addI .u64 ((carryF (carryF x)) 2) (shrI .u64 (addI .u64 ((carryF (carryF x)) 1) (shrI .u64 (addI .u64 ((carryF (carryF x)) 0) (mulI .u64 19 (shrI .u64 (addI .u64 ((carryF (carryF x)) 4) (shrI .u64 (addI .u64 ((carryF (carryF x)) 3) (shrI .u64 (addI .u64 ((carryF (carryF x)) 2) (shrI .u64 (addI .u64 ((carryF (carryF x)) 1) (shrI .u64 (addI .u64 ((carryF (carryF x)) 0) 19) 51)) 51)) 51)) 51)) 51))) 51)) 51)) 51)) 51)) 2251799813685247)])
theorem reduceF_t (x : (Nat → Int)) : awp Try.prog o84 noG 300 (body Try.f82) (ends Try.prog Try.f82 fun v _ => okV (V.ints .u64 5 (reduceF x)) v) ⟨[(V.ints .u64 5 x)] ++ List.replicate 54 V.un, []⟩ = ((V.ints .u64 5 (reduceF x)).den z0 = (V.ints .u64 5 (reduceF x)).den z0) := by kernel_rfl
theorem reduceF_a (x : (Nat → Int)) : awp Try.prog o84 noG 300 (body Try.f82) (ends Try.prog Try.f82 fun v _ => okV (V.ints .u64 5 (reduceF x)) v) ⟨[(V.ints .u64 5 x)] ++ List.replicate 54 V.un, []⟩ := by rw [reduceF_t]
def g82 : List V → Option (Bool × V) := fun | [.ints .u64 5 x] => some (true, (V.ints .u64 5 (reduceF x))) | _ => none
theorem reduceF_p (x : (Nat → Int)) : (∀ μ μ', V.den μ' (V.ints .u64 5 (reduceF x)) = V.den μ (V.ints .u64 5 (reduceF x))) ∧ ∀ μ w, PureAt Try.prog 82 (([(V.ints .u64 5 x)] : List V).map (V.den μ)).toArray (V.den μ (V.ints .u64 5 (reduceF x))) w :=
  pure_ok (F := o84) (N := 300) (fn := Try.f82) (args := [(V.ints .u64 5 x)]) (r := (V.ints .u64 5 (reduceF x))) (n := 54) hM o84_ok (noG_ok _) Try.func82 (by kernel_rfl) (by kernel_rfl) (by kernel_rfl) (by kernel_rfl) (reduceF_a x) (by kernel_rfl)
theorem g82_ok (vs : List V) (v : V) (h : g82 vs = some (true, v)) : (∀ μ μ', v.den μ' = v.den μ) ∧ ∀ μ w, PureAt Try.prog 82 (vs.map (V.den μ)).toArray (v.den μ) w := by
  unfold g82 at h
  split at h
  · simp only [Option.some.injEq, Prod.mk.injEq, true_and] at h
    subst h
    exact reduceF_p _
  · simp at h
def o82 : Orc := ext 82 g82 o84
theorem o82_ok : OrcOK Try.prog o82 := ext_ok o84_ok g82_ok

/- field.Equal -/
def equalF (x : (Nat → Int)) (y : (Nat → Int)) : Bool := (eqN 5 (reduceF x) (reduceF y))
theorem equalF_t (x : (Nat → Int)) (y : (Nat → Int)) : awp Try.prog o82 noG 300 (body Try.f22) (ends Try.prog Try.f22 fun v _ => okV (V.bool (equalF x y)) v) ⟨[(V.ints .u64 5 x), (V.ints .u64 5 y)] ++ List.replicate 8 V.un, []⟩ = ((V.bool (equalF x y)).den z0 = (V.bool (equalF x y)).den z0) := by kernel_rfl
theorem equalF_a (x : (Nat → Int)) (y : (Nat → Int)) : awp Try.prog o82 noG 300 (body Try.f22) (ends Try.prog Try.f22 fun v _ => okV (V.bool (equalF x y)) v) ⟨[(V.ints .u64 5 x), (V.ints .u64 5 y)] ++ List.replicate 8 V.un, []⟩ := by rw [equalF_t]
def g22 : List V → Option (Bool × V) := fun | [.ints .u64 5 x, .ints .u64 5 y] => some (true, (V.bool (equalF x y))) | _ => none
theorem equalF_p (x : (Nat → Int)) (y : (Nat → Int)) : (∀ μ μ', V.den μ' (V.bool (equalF x y)) = V.den μ (V.bool (equalF x y))) ∧ ∀ μ w, PureAt Try.prog 22 (([(V.ints .u64 5 x), (V.ints .u64 5 y)] : List V).map (V.den μ)).toArray (V.den μ (V.bool (equalF x y))) w :=
  pure_ok (F := o82) (N := 300) (fn := Try.f22) (args := [(V.ints .u64 5 x), (V.ints .u64 5 y)]) (r := (V.bool (equalF x y))) (n := 8) hM o82_ok (noG_ok _) Try.func22 (by kernel_rfl) (by kernel_rfl) (by kernel_rfl) (by kernel_rfl) (equalF_a x y) (by kernel_rfl)
theorem g22_ok (vs : List V) (v : V) (h : g22 vs = some (true, v)) : (∀ μ μ', v.den μ' = v.den μ) ∧ ∀ μ w, PureAt Try.prog 22 (vs.map (V.den μ)).toArray (v.den μ) w := by
  unfold g22 at h
  split at h
  · simp only [Option.some.injEq, Prod.mk.injEq, true_and] at h
    subst h
    exact equalF_p _ _
  · simp at h
def o22 : Orc := ext 22 g22 o82
theorem o22_ok : OrcOK Try.prog o22 := ext_ok o82_ok g22_ok

/- field.IsZero -/
def isZeroF (x : (Nat → Int)) : Bool := (eqN 5 (reduceF x) (fun _ => 0))
theorem isZeroF_t (x : (Nat → Int)) : awp Try.prog o22 noG 300 (body Try.f23) (ends Try.prog Try.f23 fun v _ => okV (V.bool (isZeroF x)) v) ⟨[(V.ints .u64 5 x)] ++ List.replicate 6 V.un, []⟩ = ((V.bool (isZeroF x)).den z0 = (V.bool (isZeroF x)).den z0) := by kernel_rfl
theorem isZeroF_a (x : (Nat → Int)) : awp Try.prog o22 noG 300 (body Try.f23) (ends Try.prog Try.f23 fun v _ => okV (V.bool (isZeroF x)) v) ⟨[(V.ints .u64 5 x)] ++ List.replicate 6 V.un, []⟩ := by rw [isZeroF_t]
def g23 : List V → Option (Bool × V) := fun | [.ints .u64 5 x] => some (true, (V.bool (isZeroF x))) | _ => none
theorem isZeroF_p (x : (Nat → Int)) : (∀ μ μ', V.den μ' (V.bool (isZeroF x)) = V.den μ (V.bool (isZeroF x))) ∧ ∀ μ w, PureAt Try.prog 23 (([(V.ints .u64 5 x)] : List V).map (V.den μ)).toArray (V.den μ (V.bool (isZeroF x))) w :=
  pure_ok (F := o22) (N := 300) (fn := Try.f23) (args := [(V.ints .u64 5 x)]) (r := (V.bool (isZeroF x))) (n := 6) hM o22_ok (noG_ok _) Try.func23 (by kernel_rfl) (by kernel_rfl) (by kernel_rfl) (by kernel_rfl) (isZeroF_a x) (by kernel_rfl)
theorem g23_ok (vs : List V) (v : V) (h : g23 vs = some (true, v)) : (∀ μ μ', v.den μ' = v.den μ) ∧ ∀ μ w, PureAt Try.prog 23 (vs.map (V.den μ)).toArray (v.den μ) w := by
  unfold g23 at h
  split at h
  · simp only [Option.some.injEq, Prod.mk.injEq, true_and] at h
    subst h
    exact isZeroF_p _
  · simp at h
def o23 : Orc := ext 23 g23 o22
theorem o23_ok : OrcOK Try.prog o23 := ext_ok o22_ok g23_ok

/- field.IsOdd -/
def isOddF (x : (Nat → Int)) : Bool := ((andI .u64 ((reduceF x) 0) 1) == 1)
theorem isOddF_t (x : (Nat → Int)) : awp Try.prog o23 noG 300 (body Try.f25) (ends Try.prog Try.f25 fun v _ => okV (V.bool (isOddF x)) v) ⟨[(V.ints .u64 5 x)] ++ List.replicate 7 V.un, []⟩ = ((V.bool (isOddF x)).den z0 = (V.bool (isOddF x)).den z0) := by kernel_rfl
theorem isOddF_a (x : (Nat → Int)) : awp Try.prog o23 noG 300 (body Try.f25) (ends Try.prog Try.f25 fun v _ => okV (V.bool (isOddF x)) v) ⟨[(V.ints .u64 5 x)] ++ List.replicate 7 V.un, []⟩ := by rw [isOddF_t]
def g25 : List V → Option (Bool × V) := fun | [.ints .u64 5 x] => some (true, (V.bool (isOddF x))) | _ => none
theorem isOddF_p (x : (Nat → Int)) : (∀ μ μ', V.den μ' (V.bool (isOddF x)) = V.den μ (V.bool (isOddF x))) ∧ ∀ μ w, PureAt Try.prog 25 (([(V.ints .u64 5 x)] : List V).map (V.den μ)).toArray (V.den μ (V.bool (isOddF x))) w :=
  pure_ok (F := o23) (N := 300) (fn := Try.f25) (args := [(V.ints .u64 5 x)]) (r := (V.bool (isOddF x))) (n := 7) hM o23_ok (noG_ok _) Try.func25 (by kernel_rfl) (by kernel_rfl) (by kernel_rfl) (by kernel_rfl) (isOddF_a x) (by kernel_rfl)
theorem g25_ok (vs : List V) (v : V) (h : g25 vs = some (true, v)) : (∀ μ μ', v.den μ' = v.den μ) ∧ ∀ μ w, PureAt Try.prog 25 (vs.map (V.den μ)).toArray (v.den μ) w := by
  unfold g25 at h
  split at h
  · simp only [Option.some.injEq, Prod.mk.injEq, true_and] at h
    subst h
    exact isOddF_p _
  · simp at h
def o25 : Orc := ext 25 g25 o23
theorem o25_ok : OrcOK Try.prog o25 := ext_ok o23_ok g25_ok

/- field.Select -/
def selectF (c : Bool) (x : (Nat → Int)) (y : (Nat → Int)) : (Nat → Int) := (cond c (reduceF x) (reduceF y))
theorem selectF_t (c : Bool) (x : (Nat → Int)) (y : (Nat → Int)) : awp Try.prog o25 noG 300 (body Try.f28) (ends Try.prog Try.f28 fun v _ => okV (V.ints .u64 5 (selectF c x y)) v) ⟨[(V.bool c), (V.ints .u64 5 x), (V.ints .u64 5 y)] ++ List.replicate 9 V.un, []⟩ = (mB c ((V.ints .u64 5 (reduceF x)).den z0 = (V.ints .u64 5 (selectF c x y)).den z0) ((V.ints .u64 5 (reduceF y)).den z0 = (V.ints .u64 5 (selectF c x y)).den z0)) := by kernel_rfl
theorem selectF_a (c : Bool) (x : (Nat → Int)) (y : (Nat → Int)) : awp Try.prog o25 noG 300 (body Try.f28) (ends Try.prog Try.f28 fun v _ => okV (V.ints .u64 5 (selectF c x y)) v) ⟨[(V.bool c), (V.ints .u64 5 x), (V.ints .u64 5 y)] ++ List.replicate 9 V.un, []⟩ := by
  rw [selectF_t]
  refine mBt (fun h1 => ?_) (fun h1 => ?_)
  · simp only [selectF, h1, cond_true]
  · simp only [selectF, h1, cond_false]
def g28 : List V → Option (Bool × V) := fun | [.bool c, .ints .u64 5 x, .ints .u64 5 y] => some (true, (V.ints .u64 5 (selectF c x y))) | _ => none
theorem selectF_p (c : Bool) (x : (Nat → Int)) (y : (Nat → Int)) : (∀ μ μ', V.den μ' (V.ints .u64 5 (selectF c x y)) = V.den μ (V.ints .u64 5 (selectF c x y))) ∧ ∀ μ w, PureAt Try.prog 28 (([(V.bool c), (V.ints .u64 5 x), (V.ints .u64 5 y)] : List V).map (V.den μ)).toArray (V.den μ (V.ints .u64 5 (selectF c x y))) w :=
  pure_ok (F := o25) (N := 300) (fn := Try.f28) (args := [(V.bool c), (V.ints .u64 5 x), (V.ints .u64 5 y)]) (r := (V.ints .u64 5 (selectF c x y))) (n := 9) hM o25_ok (noG_ok _) Try.func28 (by kernel_rfl) (by kernel_rfl) (by kernel_rfl) (by kernel_rfl) (selectF_a c x y) (by kernel_rfl)
theorem g28_ok (vs : List V) (v : V) (h : g28 vs = some (true, v)) : (∀ μ μ', v.den μ' = v.den μ) ∧ ∀ μ w, PureAt Try.prog 28 (vs.map (V.den μ)).toArray (v.den μ) w := by
  unfold g28 at h
  split at h
  · simp only [Option.some.injEq, Prod.mk.injEq, true_and] at h
    subst h
    exact selectF_p _ _ _
  · simp at h
def o28 : Orc := ext 28 g28 o25
theorem o28_ok : OrcOK Try.prog o28 := ext_ok o25_ok g28_ok

/- field.Add -/
def addF (x : (Nat → Int)) (y : (Nat → Int)) : (Nat → Int) := (reduceF (L [(addI .u64 ((carryF x) 0) ((carryF y) 0)), (addI .u64 ((carryF x) 1) ((carryF y) 1)), (addI .u64 ((carryF x) 2) ((carryF y) 2)), (addI .u64 ((carryF x) 3) ((carryF y) 3)), (addI .u64 ((carryF x) 4) ((carryF y) 4))]))
theorem addF_t (x : (Nat → Int)) (y : (Nat → Int)) : awp Try.prog o28 noG 300 (body Try.f29) (ends Try.prog Try.f29 fun v _ => okV (V.ints .u64 5 (addF x y)) v) ⟨[(V.ints .u64 5 x), (V.ints .u64 5 y)] ++ List.replicate 22 V.un, []⟩ = ((V.ints .u64 5 (addF x y)).den z0 = (V.ints .u64 5 (addF x y)).den z0) := by kernel_rfl
theorem addF_a (x : (Nat → Int)) (y : (Nat → Int)) : awp Try.prog o28 noG 300 (body Try.f29) (ends Try.prog Try.f29 fun v _ => okV (V.ints .u64 5 (addF x y)) v) ⟨[(V.ints .u64 5 x), (V.ints .u64 5 y)] ++ List.replicate 22 V.un, []⟩ := by rw [addF_t]
def g29 : List V → Option (Bool × V) := fun | [.ints .u64 5 x, .ints .u64 5 y] => some (true, (V.ints .u64 5 (addF x y))) | _ => none
theorem addF_p (x : (Nat → Int)) (y : (Nat → Int)) : (∀ μ μ', V.den μ' (V.ints .u64 5 (addF x y)) = V.den μ (V.ints .u64 5 (addF x y))) ∧ ∀ μ w, PureAt Try.prog 29 (([(V.ints .u64 5 x), (V.ints .u64 5 y)] : List V).map (V.den μ)).toArray (V.den μ (V.ints .u64 5 (addF x y))) w :=
  pure_ok (F := o28) (N := 300) (fn := Try.f29) (args := [(V.ints .u64 5 x), (V.ints .u64 5 y)]) (r := (V.ints .u64 5 (addF x y))) (n := 22) hM o28_ok (noG_ok _) Try.func29 (by kernel_rfl) (by kernel_rfl) (by kernel_rfl) (by kernel_rfl) (addF_a x y) (by kernel_rfl)
theorem g29_ok (vs : List V) (v : V) (h : g29 vs = some (true, v)) : (∀ μ μ', v.den μ' = v.den μ) ∧ ∀ μ w, PureAt Try.prog 29 (vs.map (V.den μ)).toArray (v.den μ) w := by
  unfold g29 at h
  split at h
  · simp only [Option.some.injEq, Prod.mk.injEq, true_and] at h
    subst h
    exact addF_p _ _
  · simp at h
def o29 : Orc := ext 29 g29 o28
theorem o29_ok : OrcOK Try.prog o29 := ext_ok o28_ok g29_ok

/- field.Neg -/
def negF (x : (Nat → Int)) : (Nat → Int) := (reduceF (L [(subI .u64 4503599627370458 ((reduceF x) 0)), (subI .u64 4503599627370494 ((reduceF x) 1)), (subI .u64 4503599627370494 ((reduceF x) 2)), (subI .u64 4503599627370494 ((reduceF x) 3)), (subI .u64 4503599627370494 ((reduceF x) 4))]))
theorem negF_t (x : (Nat → Int)) : awp Try.prog o29 noG 300 (body Try.f33) (ends Try.prog Try.f33 fun v _ => okV (V.ints .u64 5 (negF x)) v) ⟨[(V.ints .u64 5 x)] ++ List.replicate 22 V.un, []⟩ = ((V.ints .u64 5 (negF x)).den z0 = (V.ints .u64 5 (negF x)).den z0) := by kernel_rfl
theorem negF_a (x : (Nat → Int)) : awp Try.prog o29 noG 300 (body Try.f33) (ends Try.prog Try.f33 fun v _ => okV (V.ints .u64 5 (negF x)) v) ⟨[(V.ints .u64 5 x)] ++ List.replicate 22 V.un, []⟩ := by rw [negF_t]
def g33 : List V → Option (Bool × V) := fun | [.ints .u64 5 x] => some (true, (V.ints .u64 5 (negF x))) | _ => none
theorem negF_p (x : (Nat → Int)) : (∀ μ μ', V.den μ' (V.ints .u64 5 (negF x)) = V.den μ (V.ints .u64 5 (negF x))) ∧ ∀ μ w, PureAt Try.prog 33 (([(V.ints .u64 5 x)] : List V).map (V.den μ)).toArray (V.den μ (V.ints .u64 5 (negF x))) w :=
  pure_ok (F := o29) (N := 300) (fn := Try.f33) (args := [(V.ints .u64 5 x)]) (r := (V.ints .u64 5 (negF x))) (n := 22) hM o29_ok (noG_ok _) Try.func33 (by kernel_rfl) (by kernel_rfl) (by kernel_rfl) (by kernel_rfl) (negF_a x) (by kernel_rfl)
theorem g33_ok (vs : List V) (v : V) (h : g33 vs = some (true, v)) : (∀ μ μ', v.den μ' = v.den μ) ∧ ∀ μ w, PureAt Try.prog 33 (vs.map (V.den μ)).toArray (v.den μ) w := by
  unfold g33 at h
  split at h
  · simp only [Option.some.injEq, Prod.mk.injEq, true_and] at h
    subst h
    exact negF_p _
  · simp at h
def o33 : Orc := ext 33 g33 o29
theorem o33_ok : OrcOK Try.prog o33 := ext_ok o29_ok g33_ok

/- field.Sub -/
def subF (x : (Nat → Int)) (y : (Nat → Int)) : (Nat → Int) := (addF x (negF y))
theorem subF_t (x : (Nat → Int)) (y : (Nat → Int)) : awp Try.prog o33 noG 300 (body Try.f31) (ends Try.prog Try.f31 fun v _ => okV (V.ints .u64 5 (subF x y)) v) ⟨[(V.ints .u64 5 x), (V.ints .u64 5 y)] ++ List.replicate 7 V.un, []⟩ = ((V.ints .u64 5 (subF x y)).den z0 = (V.ints .u64 5 (subF x y)).den z0) := by kernel_rfl
theorem subF_a (x : (Nat → Int)) (y : (Nat → Int)) : awp Try.prog o33 noG 300 (body Try.f31) (ends Try.prog Try.f31 fun v _ => okV (V.ints .u64 5 (subF x y)) v) ⟨[(V.ints .u64 5 x), (V.ints .u64 5 y)] ++ List.replicate 7 V.un, []⟩ := by rw [subF_t]
def g31 : List V → Option (Bool × V) := fun | [.ints .u64 5 x, .ints .u64 5 y] => some (true, (V.ints .u64 5 (subF x y))) | _ => none
theorem subF_p (x : (Nat → Int)) (y : (Nat → Int)) : (∀ μ μ', V.den μ' (V.ints .u64 5 (subF x y)) = V.den μ (V.ints .u64 5 (subF x y))) ∧ ∀ μ w, PureAt Try.prog 31 (([(V.ints .u64 5 x), (V.ints .u64 5 y)] : List V).map (V.den μ)).toArray (V.den μ (V.ints .u64 5 (subF x y))) w :=
  pure_ok (F := o33) (N := 300) (fn := Try.f31) (args := [(V.ints .u64 5 x), (V.ints .u64 5 y)]) (r := (V.ints .u64 5 (subF x y))) (n := 7) hM o33_ok (noG_ok _) Try.func31 (by kernel_rfl) (by kernel_rfl) (by kernel_rfl) (by kernel_rfl) (subF_a x y) (by kernel_rfl)
theorem g31_ok (vs : List V) (v : V) (h : g31 vs = some (true, v)) : (∀ μ μ', v.den μ' = v.den μ) ∧ ∀ μ w, PureAt Try.prog 31 (vs.map (V.den μ)).toArray (v.den μ) w := by
  unfold g31 at h
  split at h
  · simp only [Option.some.injEq, Prod.mk.injEq, true_and] at h
    subst h
    exact subF_p _ _
  · simp at h
def o31 : Orc := ext 31 g31 o33
theorem o31_ok : OrcOK Try.prog o31 := ext_ok o33_ok g31_ok

/- field.Small -/
def smallF (n : Int) : (Nat → Int) := (reduceF (L [n, 0, 0, 0, 0]))
theorem smallF_t (n : Int) : awp Try.prog o31 noG 300 (body Try.f41) (ends Try.prog Try.f41 fun v _ => okV (V.ints .u64 5 (smallF n)) v) ⟨[(V.int .u64 n)] ++ List.replicate 5 V.un, []⟩ = ((V.ints .u64 5 (smallF n)).den z0 = (V.ints .u64 5 (smallF n)).den z0) := by kernel_rfl
theorem smallF_a (n : Int) : awp Try.prog o31 noG 300 (body Try.f41) (ends Try.prog Try.f41 fun v _ => okV (V.ints .u64 5 (smallF n)) v) ⟨[(V.int .u64 n)] ++ List.replicate 5 V.un, []⟩ := by rw [smallF_t]
def g41 : List V → Option (Bool × V) := fun | [.int .u64 n] => some (true, (V.ints .u64 5 (smallF n))) | _ => none
theorem smallF_p (n : Int) : (∀ μ μ', V.den μ' (V.ints .u64 5 (smallF n)) = V.den μ (V.ints .u64 5 (smallF n))) ∧ ∀ μ w, PureAt Try.prog 41 (([(V.int .u64 n)] : List V).map (V.den μ)).toArray (V.den μ (V.ints .u64 5 (smallF n))) w :=
  pure_ok (F := o31) (N := 300) (fn := Try.f41) (args := [(V.int .u64 n)]) (r := (V.ints .u64 5 (smallF n))) (n := 5) hM o31_ok (noG_ok _) Try.func41 (by kernel_rfl) (by kernel_rfl) (by kernel_rfl) (by kernel_rfl) (smallF_a n) (by kernel_rfl)
theorem g41_ok (vs : List V) (v : V) (h : g41 vs = some (true, v)) : (∀ μ μ', v.den μ' = v.den μ) ∧ ∀ μ w, PureAt Try.prog 41 (vs.map (V.den μ)).toArray (v.den μ) w := by
  unfold g41 at h
  split at h
  · simp only [Option.some.injEq, Prod.mk.injEq, true_and] at h
    subst h
    exact smallF_p _
  · simp at h
def o41 : Orc := ext 41 g41 o31
theorem o41_ok : OrcOK Try.prog o41 := ext_ok o31_ok g41_ok
end Go.Proofs.Ytbnclikjbnfodaa
