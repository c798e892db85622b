/-
  A part of the groundwork of this seat's claims: an evaluator over the program, walks, and plain mathematics. Conditions: none.
-/
import Derived.Test.YtbnclikjbnfodaaFvI
import Derived.Test.YtbnclikjbnfodaaRows
import Derived.Laws.Externs
namespace Go.Proofs.Ytbnclikjbnfodaa
open Go.Ev
theorem hM : Try.prog.follows .mixedOrders = true := by kernel_rfl
theorem orc0_ok : OrcOK Try.prog orc0 := Go.Ev.orc0_ok _
/- field.carry -/
def carryF (x : (Nat → Int)) : (Nat → Int) := (L [(addI .u64 (andI .u64 (x 0) 2251799813685247) (mulI .u64 (shrI .u64 (x 4) 51) 19)), (addI .u64 (andI .u64 (x 1) 2251799813685247) (shrI .u64 (x 0) 51)), (addI .u64 (andI .u64 (x 2) 2251799813685247) (shrI .u64 (x 1) 51)), (addI .u64 (andI .u64 (x 3) 2251799813685247) (shrI .u64 (x 2) 51)), (addI .u64 (andI .u64 (x 4) 2251799813685247) (shrI .u64 (x 3) 51))])
theorem carryF_t (x : (Nat → Int)) : awp Try.prog orc0 noG 300 (body Try.f84) (ends Try.prog Try.f84 fun v _ => okV (V.ints .u64 5 (carryF x)) v) ⟨[(V.ints .u64 5 x)] ++ List.replicate 39 V.un, []⟩ = ((V.ints .u64 5 (carryF x)).den z0 = (V.ints .u64 5 (carryF x)).den z0) := by kernel_rfl
theorem carryF_a (x : (Nat → Int)) : awp Try.prog orc0 noG 300 (body Try.f84) (ends Try.prog Try.f84 fun v _ => okV (V.ints .u64 5 (carryF x)) v) ⟨[(V.ints .u64 5 x)] ++ List.replicate 39 V.un, []⟩ := by rw [carryF_t]
def g84 : List V → Option (Bool × V) := fun | [.ints .u64 5 x] => some (true, (V.ints .u64 5 (carryF x))) | _ => none
theorem carryF_p (x : (Nat → Int)) : (∀ μ μ', V.den μ' (V.ints .u64 5 (carryF x)) = V.den μ (V.ints .u64 5 (carryF x))) ∧ ∀ μ w, PureAt Try.prog 84 (([(V.ints .u64 5 x)] : List V).map (V.den μ)).toArray (V.den μ (V.ints .u64 5 (carryF x))) w :=
  pure_ok (F := orc0) (N := 300) (fn := Try.f84) (args := [(V.ints .u64 5 x)]) (r := (V.ints .u64 5 (carryF x))) (n := 39) hM orc0_ok (noG_ok _) Try.func84 (by kernel_rfl) (by kernel_rfl) (by kernel_rfl) (by kernel_rfl) (carryF_a x) (by kernel_rfl)
theorem g84_ok (vs : List V) (v : V) (h : g84 vs = some (true, v)) : (∀ μ μ', v.den μ' = v.den μ) ∧ ∀ μ w, PureAt Try.prog 84 (vs.map (V.den μ)).toArray (v.den μ) w := by
  unfold g84 at h
  split at h
  · simp only [Option.some.injEq, Prod.mk.injEq, true_and] at h
    subst h
    exact carryF_p _
  · simp at h
def o84 : Orc := ext 84 g84 orc0
theorem o84_ok : OrcOK Try.prog o84 := ext_ok orc0_ok g84_ok

/- field.reduce -/
def reduceF (x : (Nat → Int)) : (Nat → Int) := (L [(andI .u64 (addI .u64 ((carryF (carryF x)) 0) (mulI .u64 19 (shrI .u64 (addI .u64 ((carryF (carryF x)) 4) (shrI .u64 (addI .u64 ((carryF (carryF x)) 3) (shrI .u64 (addI .u64 ((carryF (carryF x)) 2) (shrI .u64 (addI .u64 ((carryF (carryF x)) 1) (shrI .u64 (addI .u64 ((carryF (carryF x)) 0) 19) 51)) 51)) 51)) 51)) 51))) 2251799813685247), (andI .u64 (addI .u64 ((carryF (carryF x)) 1) (shrI .u64 (addI .u64 ((carryF (carryF x)) 0) (mulI .u64 19 (shrI .u64 (addI .u64 ((carryF (carryF x)) 4) (shrI .u64 (addI .u64 ((carryF (carryF x)) 3) (shrI .u64 (addI .u64 ((carryF (carryF x)) 2) (shrI .u64 (addI .u64 ((carryF (carryF x)) 1) (shrI .u64 (addI .u64 ((carryF (carryF x)) 0) 19) 51)) 51)) 51)) 51)) 51))) 51)) 2251799813685247), (andI .u64 (addI .u64 ((carryF (carryF x)) 2) (shrI .u64 (addI .u64 ((carryF (carryF x)) 1) (shrI .u64 (addI .u64 ((carryF (carryF x)) 0) (mulI .u64 19 (shrI .u64 (addI .u64 ((carryF (carryF x)) 4) (shrI .u64 (addI .u64 ((carryF (carryF x)) 3) (shrI .u64 (addI .u64 ((carryF (carryF x)) 2) (shrI .u64 (addI .u64 ((carryF (carryF x)) 1) (shrI .u64 (addI .u64 ((carryF (carryF x)) 0) 19) 51)) 51)) 51)) 51)) 51))) 51)) 51)) 2251799813685247), (andI .u64 (addI .u64 ((carryF (carryF x)) 3) (shrI .u64 (addI .u64 ((carryF (carryF x)) 2) (shrI .u64 (addI .u64 ((carryF (carryF x)) 1) (shrI .u64 (addI .u64 ((carryF (carryF x)) 0) (mulI .u64 19 (shrI .u64 (addI .u64 ((carryF (carryF x)) 4) (shrI .u64 (addI .u64 ((carryF (carryF x)) 3) (shrI .u64 (addI .u64 ((carryF (carryF x)) 2) (shrI .u64 (addI .u64 ((carryF (carryF x)) 1) (shrI .u64 (addI .u64 ((carryF (carryF x)) 0) 19) 51)) 51)) 51)) 51)) 51))) 51)) 51)) 51)) 2251799813685247), (andI .u64 (addI .u64 ((carryF (carryF x)) 4) (shrI .u64 (addI .u64 ((carryF (carryF x)) 3) (shrI .u64 (addI .u64 ((carryF (carryF x)) 2) (shrI .u64 (addI .u64 ((carryF (carryF x)) 1) (shrI .u64 (addI .u64 ((carryF (carryF x)) 0) (mulI .u64 19 (shrI .u64 (addI .u64 ((carryF (carryF x)) 4) (shrI .u64 (addI .u64 ((carryF (carryF x)) 3) (shrI .u64 (addI .u64 ((carryF (carryF x)) 2) (shrI .u64 (addI .u64 ((carryF (carryF x)) 1) (shrI .u64 (addI .u64 ((carryF (carryF x)) 0) 19) 51)) 51)) 51)) 51)) 51))) 51)) 51)) 51)) 51)) 2251799813685247)])
theorem reduceF_t (x : (Nat → Int)) : awp Try.prog o84 noG 300 (body Try.f82) (ends Try.prog Try.f82 fun v _ => okV (V.ints .u64 5 (reduceF x)) v) ⟨[(V.ints .u64 5 x)] ++ List.replicate 54 V.un, []⟩ = ((V.ints .u64 5 (reduceF x)).den z0 = (V.ints .u64 5 (reduceF x)).den z0) := by kernel_rfl
theorem reduceF_a (x : (Nat → Int)) : awp Try.prog o84 noG 300 (body Try.f82) (ends Try.prog Try.f82 fun v _ => okV (V.ints .u64 5 (reduceF x)) v) ⟨[(V.ints .u64 5 x)] ++ List.replicate 54 V.un, []⟩ := by rw [reduceF_t]
def g82 : List V → Option (Bool × V) := fun | [.ints .u64 5 x] => some (true, (V.ints .u64 5 (reduceF x))) | _ => none
theorem reduceF_p (x : (Nat → Int)) : (∀ μ μ', V.den μ' (V.ints .u64 5 (reduceF x)) = V.den μ (V.ints .u64 5 (reduceF x))) ∧ ∀ μ w, PureAt Try.prog 82 (([(V.ints .u64 5 x)] : List V).map (V.den μ)).toArray (V.den μ (V.ints .u64 5 (reduceF x))) w :=
  pure_ok (F := o84) (N := 300) (fn := Try.f82) (args := [(V.ints .u64 5 x)]) (r := (V.ints .u64 5 (reduceF x))) (n := 54) hM o84_ok (noG_ok _) Try.func82 (by kernel_rfl) (by kernel_rfl) (by kernel_rfl) (by kernel_rfl) (reduceF_a x) (by kernel_rfl)
theorem g82_ok (vs : List V) (v : V) (h : g82 vs = some (true, v)) : (∀ μ μ', v.den μ' = v.den μ) ∧ ∀ μ w, PureAt Try.prog 82 (vs.map (V.den μ)).toArray (v.den μ) w := by
  unfold g82 at h
  split at h
  · simp only [Option.some.injEq, Prod.mk.injEq, true_and] at h
    subst h
    exact reduceF_p _
  · simp at h
def o82 : Orc := ext 82 g82 o84
theorem o82_ok : OrcOK Try.prog o82 := ext_ok o84_ok g82_ok

/- field.Equal -/
def equalF (x : (Nat → Int)) (y : (Nat → Int)) : Bool := (eqN 5 (reduceF x) (reduceF y))
theorem equalF_t (x : (Nat → Int)) (y : (Nat → Int)) : awp Try.prog o82 noG 300 (body Try.f22) (ends Try.prog Try.f22 fun v _ => okV (V.bool (equalF x y)) v) ⟨[(V.ints .u64 5 x), (V.ints .u64 5 y)] ++ List.replicate 8 V.un, []⟩ = ((V.bool (equalF x y)).den z0 = (V.bool (equalF x y)).den z0) := by kernel_rfl
theorem equalF_a (x : (Nat → Int)) (y : (Nat → Int)) : awp Try.prog o82 noG 300 (body Try.f22) (ends Try.prog Try.f22 fun v _ => okV (V.bool (equalF x y)) v) ⟨[(V.ints .u64 5 x), (V.ints .u64 5 y)] ++ List.replicate 8 V.un, []⟩ := by rw [equalF_t]
def g22 : List V → Option (Bool × V) := fun | [.ints .u64 5 x, .ints .u64 5 y] => some (true, (V.bool (equalF x y))) | _ => none
theorem equalF_p (x : (Nat → Int)) (y : (Nat → Int)) : (∀ μ μ', V.den μ' (V.bool (equalF x y)) = V.den μ (V.bool (equalF x y))) ∧ ∀ μ w, PureAt Try.prog 22 (([(V.ints .u64 5 x), (V.ints .u64 5 y)] : List V).map (V.den μ)).toArray (V.den μ (V.bool (equalF x y))) w :=
  pure_ok (F := o82) (N := 300) (fn := Try.f22) (args := [(V.ints .u64 5 x), (V.ints .u64 5 y)]) (r := (V.bool (equalF x y))) (n := 8) hM o82_ok (noG_ok _) Try.func22 (by kernel_rfl) (by kernel_rfl) (by kernel_rfl) (by kernel_rfl) (equalF_a x y) (by kernel_rfl)
theorem g22_ok (vs : List V) (v : V) (h : g22 vs = some (true, v)) : (∀ μ μ', v.den μ' = v.den μ) ∧ ∀ μ w, PureAt Try.prog 22 (vs.map (V.den μ)).toArray (v.den μ) w := by
  unfold g22 at h
  split at h
  · simp only [Option.some.injEq, Prod.mk.injEq, true_and] at h
    subst h
    exact equalF_p _ _
  · simp at h
def o22 : Orc := ext 22 g22 o82
theorem o22_ok : OrcOK Try.prog o22 := ext_ok o82_ok g22_ok

/- field.IsZero -/
def isZeroF (x : (Nat → Int)) : Bool := (eqN 5 (reduceF x) (fun _ => 0))
theorem isZeroF_t (x : (Nat → Int)) : awp Try.prog o22 noG 300 (body Try.f23) (ends Try.prog Try.f23 fun v _ => okV (V.bool (isZeroF x)) v) ⟨[(V.ints .u64 5 x)] ++ List.replicate 6 V.un, []⟩ = ((V.bool (isZeroF x)).den z0 = (V.bool (isZeroF x)).den z0) := by kernel_rfl
theorem isZeroF_a (x : (Nat → Int)) : awp Try.prog o22 noG 300 (body Try.f23) (ends Try.prog Try.f23 fun v _ => okV (V.bool (isZeroF x)) v) ⟨[(V.ints .u64 5 x)] ++ List.replicate 6 V.un, []⟩ := by rw [isZeroF_t]
def g23 : List V → Option (Bool × V) := fun | [.ints .u64 5 x] => some (true, (V.bool (isZeroF x))) | _ => none
theorem isZeroF_p (x : (Nat → Int)) : (∀ μ μ', V.den μ' (V.bool (isZeroF x)) = V.den μ (V.bool (isZeroF x))) ∧ ∀ μ w, PureAt Try.prog 23 (([(V.ints .u64 5 x)] : List V).map (V.den μ)).toArray (V.den μ (V.bool (isZeroF x))) w :=
  pure_ok (F := o22) (N := 300) (fn := Try.f23) (args := [(V.ints .u64 5 x)]) (r := (V.bool (isZeroF x))) (n := 6) hM o22_ok (noG_ok _) Try.func23 (by kernel_rfl) (by kernel_rfl) (by kernel_rfl) (by kernel_rfl) (isZeroF_a x) (by kernel_rfl)
theorem g23_ok (vs : List V) (v : V) (h : g23 vs = some (true, v)) : (∀ μ μ', v.den μ' = v.den μ) ∧ ∀ μ w, PureAt Try.prog 23 (vs.map (V.den μ)).toArray (v.den μ) w := by
  unfold g23 at h
  split at h
  · simp only [Option.some.injEq, Prod.mk.injEq, true_and] at h
    subst h
    exact isZeroF_p _
  · simp at h
def o23 : Orc := ext 23 g23 o22
theorem o23_ok : OrcOK Try.prog o23 := ext_ok o22_ok g23_ok

/- field.IsOdd -/
def isOddF (x : (Nat → Int)) : Bool := ((andI .u64 ((reduceF x) 0) 1) == 1)
theorem isOddF_t (x : (Nat → Int)) : awp Try.prog o23 noG 300 (body Try.f25) (ends Try.prog Try.f25 fun v _ => okV (V.bool (isOddF x)) v) ⟨[(V.ints .u64 5 x)] ++ List.replicate 7 V.un, []⟩ = ((V.bool (isOddF x)).den z0 = (V.bool (isOddF x)).den z0) := by kernel_rfl
theorem isOddF_a (x : (Nat → Int)) : awp Try.prog o23 noG 300 (body Try.f25) (ends Try.prog Try.f25 fun v _ => okV (V.bool (isOddF x)) v) ⟨[(V.ints .u64 5 x)] ++ List.replicate 7 V.un, []⟩ := by rw [isOddF_t]
def g25 : List V → Option (Bool × V) := fun | [.ints .u64 5 x] => some (true, (V.bool (isOddF x))) | _ => none
theorem isOddF_p (x : (Nat → Int)) : (∀ μ μ', V.den μ' (V.bool (isOddF x)) = V.den μ (V.bool (isOddF x))) ∧ ∀ μ w, PureAt Try.prog 25 (([(V.ints .u64 5 x)] : List V).map (V.den μ)).toArray (V.den μ (V.bool (isOddF x))) w :=
  pure_ok (F := o23) (N := 300) (fn := Try.f25) (args := [(V.ints .u64 5 x)]) (r := (V.bool (isOddF x))) (n := 7) hM o23_ok (noG_ok _) Try.func25 (by kernel_rfl) (by kernel_rfl) (by kernel_rfl) (by kernel_rfl) (isOddF_a x) (by kernel_rfl)
theorem g25_ok (vs : List V) (v : V) (h : g25 vs = some (true, v)) : (∀ μ μ', v.den μ' = v.den μ) ∧ ∀ μ w, PureAt Try.prog 25 (vs.map (V.den μ)).toArray (v.den μ) w := by
  unfold g25 at h
  split at h
  · simp only [Option.some.injEq, Prod.mk.injEq, true_and] at h
    subst h
    exact isOddF_p _
  · simp at h
def o25 : Orc := ext 25 g25 o23
theorem o25_ok : OrcOK Try.prog o25 := ext_ok o23_ok g25_ok

/- field.Select -/
def selectF (c : Bool) (x : (Nat → Int)) (y : (Nat → Int)) : (Nat → Int) := (cond c (reduceF x) (reduceF y))
theorem selectF_t (c : Bool) (x : (Nat → Int)) (y : (Nat → Int)) : awp Try.prog o25 noG 300 (body Try.f28) (ends Try.prog Try.f28 fun v _ => okV (V.ints .u64 5 (selectF c x y)) v) ⟨[(V.bool c), (V.ints .u64 5 x), (V.ints .u64 5 y)] ++ List.replicate 9 V.un, []⟩ = (mB c ((V.ints .u64 5 (reduceF x)).den z0 = (V.ints .u64 5 (selectF c x y)).den z0) ((V.ints .u64 5 (reduceF y)).den z0 = (V.ints .u64 5 (selectF c x y)).den z0)) := by kernel_rfl
theorem selectF_a (c : Bool) (x : (Nat → Int)) (y : (Nat → Int)) : awp Try.prog o25 noG 300 (body Try.f28) (ends Try.prog Try.f28 fun v _ => okV (V.ints .u64 5 (selectF c x y)) v) ⟨[(V.bool c), (V.ints .u64 5 x), (V.ints .u64 5 y)] ++ List.replicate 9 V.un, []⟩ := by
  rw [selectF_t]
  refine mBt (fun h1 => ?_) (fun h1 => ?_)
  · simp only [selectF, h1, cond_true]
  · simp only [selectF, h1, cond_false]
def g28 : List V → Option (Bool × V) := fun | [.bool c, .ints .u64 5 x, .ints .u64 5 y] => some (true, (V.ints .u64 5 (selectF c x y))) | _ => none
theorem selectF_p (c : Bool) (x : (Nat → Int)) (y : (Nat → Int)) : (∀ μ μ', V.den μ' (V.ints .u64 5 (selectF c x y)) = V.den μ (V.ints .u64 5 (selectF c x y))) ∧ ∀ μ w, PureAt Try.prog 28 (([(V.bool c), (V.ints .u64 5 x), (V.ints .u64 5 y)] : List V).map (V.den μ)).toArray (V.den μ (V.ints .u64 5 (selectF c x y))) w :=
  pure_ok (F := o25) (N := 300) (fn := Try.f28) (args := [(V.bool c), (V.ints .u64 5 x), (V.ints .u64 5 y)]) (r := (V.ints .u64 5 (selectF c x y))) (n := 9) hM o25_ok (noG_ok _) Try.func28 (by kernel_rfl) (by kernel_rfl) (by kernel_rfl) (by kernel_rfl) (selectF_a c x y) (by kernel_rfl)
theorem g28_ok (vs : List V) (v : V) (h : g28 vs = some (true, v)) : (∀ μ μ', v.den μ' = v.den μ) ∧ ∀ μ w, PureAt Try.prog 28 (vs.map (V.den μ)).toArray (v.den μ) w := by
  unfold g28 at h
  split at h
  · simp only [Option.some.injEq, Prod.mk.injEq, true_and] at h
    subst h
    exact selectF_p _ _ _
  · simp at h
def o28 : Orc := ext 28 g28 o25
theorem o28_ok : OrcOK Try.prog o28 := ext_ok o25_ok g28_ok

/- field.Add -/
def addF (x : (Nat → Int)) (y : (Nat → Int)) : (Nat → Int) := (reduceF (L [(addI .u64 ((carryF x) 0) ((carryF y) 0)), (addI .u64 ((carryF x) 1) ((carryF y) 1)), (addI .u64 ((carryF x) 2) ((carryF y) 2)), (addI .u64 ((carryF x) 3) ((carryF y) 3)), (addI .u64 ((carryF x) 4) ((carryF y) 4))]))
theorem addF_t (x : (Nat → Int)) (y : (Nat → Int)) : awp Try.prog o28 noG 300 (body Try.f29) (ends Try.prog Try.f29 fun v _ => okV (V.ints .u64 5 (addF x y)) v) ⟨[(V.ints .u64 5 x), (V.ints .u64 5 y)] ++ List.replicate 22 V.un, []⟩ = ((V.ints .u64 5 (addF x y)).den z0 = (V.ints .u64 5 (addF x y)).den z0) := by kernel_rfl
theorem addF_a (x : (Nat → Int)) (y : (Nat → Int)) : awp Try.prog o28 noG 300 (body Try.f29) (ends Try.prog Try.f29 fun v _ => okV (V.ints .u64 5 (addF x y)) v) ⟨[(V.ints .u64 5 x), (V.ints .u64 5 y)] ++ List.replicate 22 V.un, []⟩ := by rw [addF_t]
def g29 : List V → Option (Bool × V) := fun | [.ints .u64 5 x, .ints .u64 5 y] => some (true, (V.ints .u64 5 (addF x y))) | _ => none
theorem addF_p (x : (Nat → Int)) (y : (Nat → Int)) : (∀ μ μ', V.den μ' (V.ints .u64 5 (addF x y)) = V.den μ (V.ints .u64 5 (addF x y))) ∧ ∀ μ w, PureAt Try.prog 29 (([(V.ints .u64 5 x), (V.ints .u64 5 y)] : List V).map (V.den μ)).toArray (V.den μ (V.ints .u64 5 (addF x y))) w :=
  pure_ok (F := o28) (N := 300) (fn := Try.f29) (args := [(V.ints .u64 5 x), (V.ints .u64 5 y)]) (r := (V.ints .u64 5 (addF x y))) (n := 22) hM o28_ok (noG_ok _) Try.func29 (by kernel_rfl) (by kernel_rfl) (by kernel_rfl) (by kernel_rfl) (addF_a x y) (by kernel_rfl)
theorem g29_ok (vs : List V) (v : V) (h : g29 vs = some (true, v)) : (∀ μ μ', v.den μ' = v.den μ) ∧ ∀ μ w, PureAt Try.prog 29 (vs.map (V.den μ)).toArray (v.den μ) w := by
  unfold g29 at h
  split at h
  · simp only [Option.some.injEq, Prod.mk.injEq, true_and] at h
    subst h
    exact addF_p _ _
  · simp at h
def o29 : Orc := ext 29 g29 o28
theorem o29_ok : OrcOK Try.prog o29 := ext_ok o28_ok g29_ok

/- field.Neg -/
def negF (x : (Nat → Int)) : (Nat → Int) := (reduceF (L [(subI .u64 4503599627370458 ((reduceF x) 0)), (subI .u64 4503599627370494 ((reduceF x) 1)), (subI .u64 4503599627370494 ((reduceF x) 2)), (subI .u64 4503599627370494 ((reduceF x) 3)), (subI .u64 4503599627370494 ((reduceF x) 4))]))
theorem negF_t (x : (Nat → Int)) : awp Try.prog o29 noG 300 (body Try.f33) (ends Try.prog Try.f33 fun v _ => okV (V.ints .u64 5 (negF x)) v) ⟨[(V.ints .u64 5 x)] ++ List.replicate 22 V.un, []⟩ = ((V.ints .u64 5 (negF x)).den z0 = (V.ints .u64 5 (negF x)).den z0) := by kernel_rfl
theorem negF_a (x : (Nat → Int)) : awp Try.prog o29 noG 300 (body Try.f33) (ends Try.prog Try.f33 fun v _ => okV (V.ints .u64 5 (negF x)) v) ⟨[(V.ints .u64 5 x)] ++ List.replicate 22 V.un, []⟩ := by rw [negF_t]
def g33 : List V → Option (Bool × V) := fun | [.ints .u64 5 x] => some (true, (V.ints .u64 5 (negF x))) | _ => none
theorem negF_p (x : (Nat → Int)) : (∀ μ μ', V.den μ' (V.ints .u64 5 (negF x)) = V.den μ (V.ints .u64 5 (negF x))) ∧ ∀ μ w, PureAt Try.prog 33 (([(V.ints .u64 5 x)] : List V).map (V.den μ)).toArray (V.den μ (V.ints .u64 5 (negF x))) w :=
  pure_ok (F := o29) (N := 300) (fn := Try.f33) (args := [(V.ints .u64 5 x)]) (r := (V.ints .u64 5 (negF x))) (n := 22) hM o29_ok (noG_ok _) Try.func33 (by kernel_rfl) (by kernel_rfl) (by kernel_rfl) (by kernel_rfl) (negF_a x) (by kernel_rfl)
theorem g33_ok (vs : List V) (v : V) (h : g33 vs = some (true, v)) : (∀ μ μ', v.den μ' = v.den μ) ∧ ∀ μ w, PureAt Try.prog 33 (vs.map (V.den μ)).toArray (v.den μ) w := by
  unfold g33 at h
  split at h
  · simp only [Option.some.injEq, Prod.mk.injEq, true_and] at h
    subst h
    exact negF_p _
  · simp at h
def o33 : Orc := ext 33 g33 o29
theorem o33_ok : OrcOK Try.prog o33 := ext_ok o29_ok g33_ok

/- field.Sub -/
def subF (x : (Nat → Int)) (y : (Nat → Int)) : (Nat → Int) := (addF x (negF y))
theorem subF_t (x : (Nat → Int)) (y : (Nat → Int)) : awp Try.prog o33 noG 300 (body Try.f31) (ends Try.prog Try.f31 fun v _ => okV (V.ints .u64 5 (subF x y)) v) ⟨[(V.ints .u64 5 x), (V.ints .u64 5 y)] ++ List.replicate 7 V.un, []⟩ = ((V.ints .u64 5 (subF x y)).den z0 = (V.ints .u64 5 (subF x y)).den z0) := by kernel_rfl
theorem subF_a (x : (Nat → Int)) (y : (Nat → Int)) : awp Try.prog o33 noG 300 (body Try.f31) (ends Try.prog Try.f31 fun v _ => okV (V.ints .u64 5 (subF x y)) v) ⟨[(V.ints .u64 5 x), (V.ints .u64 5 y)] ++ List.replicate 7 V.un, []⟩ := by rw [subF_t]
def g31 : List V → Option (Bool × V) := fun | [.ints .u64 5 x, .ints .u64 5 y] => some (true, (V.ints .u64 5 (subF x y))) | _ => none
theorem subF_p (x : (Nat → Int)) (y : (Nat → Int)) : (∀ μ μ', V.den μ' (V.ints .u64 5 (subF x y)) = V.den μ (V.ints .u64 5 (subF x y))) ∧ ∀ μ w, PureAt Try.prog 31 (([(V.ints .u64 5 x), (V.ints .u64 5 y)] : List V).map (V.den μ)).toArray (V.den μ (V.ints .u64 5 (subF x y))) w :=
  pure_ok (F := o33) (N := 300) (fn := Try.f31) (args := [(V.ints .u64 5 x), (V.ints .u64 5 y)]) (r := (V.ints .u64 5 (subF x y))) (n := 7) hM o33_ok (noG_ok _) Try.func31 (by kernel_rfl) (by kernel_rfl) (by kernel_rfl) (by kernel_rfl) (subF_a x y) (by kernel_rfl)
theorem g31_ok (vs : List V) (v : V) (h : g31 vs = some (true, v)) : (∀ μ μ', v.den μ' = v.den μ) ∧ ∀ μ w, PureAt Try.prog 31 (vs.map (V.den μ)).toArray (v.den μ) w := by
  unfold g31 at h
  split at h
  · simp only [Option.some.injEq, Prod.mk.injEq, true_and] at h
    subst h
    exact subF_p _ _
  · simp at h
def o31 : Orc := ext 31 g31 o33
theorem o31_ok : OrcOK Try.prog o31 := ext_ok o33_ok g31_ok

/- field.Small -/
def smallF (n : Int) : (Nat → Int) := (reduceF (L [n, 0, 0, 0, 0]))
theorem smallF_t (n : Int) : awp Try.prog o31 noG 300 (body Try.f41) (ends Try.prog Try.f41 fun v _ => okV (V.ints .u64 5 (smallF n)) v) ⟨[(V.int .u64 n)] ++ List.replicate 5 V.un, []⟩ = ((V.ints .u64 5 (smallF n)).den z0 = (V.ints .u64 5 (smallF n)).den z0) := by kernel_rfl
theorem smallF_a (n : Int) : awp Try.prog o31 noG 300 (body Try.f41) (ends Try.prog Try.f41 fun v _ => okV (V.ints .u64 5 (smallF n)) v) ⟨[(V.int .u64 n)] ++ List.replicate 5 V.un, []⟩ := by rw [smallF_t]
def g41 : List V → Option (Bool × V) := fun | [.int .u64 n] => some (true, (V.ints .u64 5 (smallF n))) | _ => none
theorem smallF_p (n : Int) : (∀ μ μ', V.den μ' (V.ints .u64 5 (smallF n)) = V.den μ (V.ints .u64 5 (smallF n))) ∧ ∀ μ w, PureAt Try.prog 41 (([(V.int .u64 n)] : List V).map (V.den μ)).toArray (V.den μ (V.ints .u64 5 (smallF n))) w :=
  pure_ok (F := o31) (N := 300) (fn := Try.f41) (args := [(V.int .u64 n)]) (r := (V.ints .u64 5 (smallF n))) (n := 5) hM o31_ok (noG_ok _) Try.func41 (by kernel_rfl) (by kernel_rfl) (by kernel_rfl) (by kernel_rfl) (smallF_a n) (by kernel_rfl)
theorem g41_ok (vs : List V) (v : V) (h : g41 vs = some (true, v)) : (∀ μ μ', v.den μ' = v.den μ) ∧ ∀ μ w, PureAt Try.prog 41 (vs.map (V.den μ)).toArray (v.den μ) w := by
  unfold g41 at h
  split at h
  · simp only [Option.some.injEq, Prod.mk.injEq, true_and] at h
    subst h
    exact smallF_p _
  · simp at h
def o41 : Orc := ext 41 g41 o31
theorem o41_ok : OrcOK Try.prog o41 := ext_ok o31_ok g41_ok
end Go.Proofs.Ytbnclikjbnfodaa

namespace Go.Proofs.Ytbnclikjbnfodaa
open Go.Ev
/- fareboxref05.Small -/
def rSmall (n : Int) : (Nat → Int) := (L [(andI .u64 n 67108863), (andI .u64 (shrI .u64 n 26) 67108863), (shrI .u64 n 52), 0, 0, 0, 0, 0, 0, 0])
theorem rSmall_t (n : Int) : awp Try.prog o41 noG 300 (body Try.f42) (ends Try.prog Try.f42 fun v _ => okV (V.ints .u64 10 (rSmall n)) v) ⟨[(V.int .u64 n)] ++ List.replicate 10 V.un, []⟩ = ((V.ints .u64 10 (rSmall n)).den z0 = (V.ints .u64 10 (rSmall n)).den z0) := by kernel_rfl
theorem rSmall_a (n : Int) : awp Try.prog o41 noG 300 (body Try.f42) (ends Try.prog Try.f42 fun v _ => okV (V.ints .u64 10 (rSmall n)) v) ⟨[(V.int .u64 n)] ++ List.replicate 10 V.un, []⟩ := by rw [rSmall_t]
def g42 : List V → Option (Bool × V) := fun | [.int .u64 n] => some (true, (V.ints .u64 10 (rSmall n))) | _ => none
theorem rSmall_p (n : Int) : (∀ μ μ', V.den μ' (V.ints .u64 10 (rSmall n)) = V.den μ (V.ints .u64 10 (rSmall n))) ∧ ∀ μ w, PureAt Try.prog 42 (([(V.int .u64 n)] : List V).map (V.den μ)).toArray (V.den μ (V.ints .u64 10 (rSmall n))) w :=
  pure_ok (F := o41) (N := 300) (fn := Try.f42) (args := [(V.int .u64 n)]) (r := (V.ints .u64 10 (rSmall n))) (n := 10) hM o41_ok (noG_ok _) Try.func42 (by kernel_rfl) (by kernel_rfl) (by kernel_rfl) (by kernel_rfl) (rSmall_a n) (by kernel_rfl)
theorem g42_ok (vs : List V) (v : V) (h : g42 vs = some (true, v)) : (∀ μ μ', v.den μ' = v.den μ) ∧ ∀ μ w, PureAt Try.prog 42 (vs.map (V.den μ)).toArray (v.den μ) w := by
  unfold g42 at h
  split at h
  · simp only [Option.some.injEq, Prod.mk.injEq, true_and] at h
    subst h
    exact rSmall_p _
  · simp at h
def o42 : Orc := ext 42 g42 o41
theorem o42_ok : OrcOK Try.prog o42 := ext_ok o41_ok g42_ok

/- fareboxref05.carried -/
def rCarried (a : (Nat → Int)) : (Nat → Int) := (L [(andI .u64 (a 0) 67108863), (andI .u64 (addI .u64 (a 1) (shrI .u64 (a 0) 26)) 67108863), (andI .u64 (addI .u64 (a 2) (shrI .u64 (addI .u64 (a 1) (shrI .u64 (a 0) 26)) 26)) 67108863), (andI .u64 (addI .u64 (a 3) (shrI .u64 (addI .u64 (a 2) (shrI .u64 (addI .u64 (a 1) (shrI .u64 (a 0) 26)) 26)) 26)) 67108863), (andI .u64 (addI .u64 (a 4) (shrI .u64 (addI .u64 (a 3) (shrI .u64 (addI .u64 (a 2) (shrI .u64 (addI .u64 (a 1) (shrI .u64 (a 0) 26)) 26)) 26)) 26)) 67108863), (andI .u64 (addI .u64 (a 5) (shrI .u64 (addI .u64 (a 4) (shrI .u64 (addI .u64 (a 3) (shrI .u64 (addI .u64 (a 2) (shrI .u64 (addI .u64 (a 1) (shrI .u64 (a 0) 26)) 26)) 26)) 26)) 26)) 67108863), (andI .u64 (addI .u64 (a 6) (shrI .u64 (addI .u64 (a 5) (shrI .u64 (addI .u64 (a 4) (shrI .u64 (addI .u64 (a 3) (shrI .u64 (addI .u64 (a 2) (shrI .u64 (addI .u64 (a 1) (shrI .u64 (a 0) 26)) 26)) 26)) 26)) 26)) 26)) 67108863), (andI .u64 (addI .u64 (a 7) (shrI .u64 (addI .u64 (a 6) (shrI .u64 (addI .u64 (a 5) (shrI .u64 (addI .u64 (a 4) (shrI .u64 (addI .u64 (a 3) (shrI .u64 (addI .u64 (a 2) (shrI .u64 (addI .u64 (a 1) (shrI .u64 (a 0) 26)) 26)) 26)) 26)) 26)) 26)) 26)) 67108863), (andI .u64 (addI .u64 (a 8) (shrI .u64 (addI .u64 (a 7) (shrI .u64 (addI .u64 (a 6) (shrI .u64 (addI .u64 (a 5) (shrI .u64 (addI .u64 (a 4) (shrI .u64 (addI .u64 (a 3) (shrI .u64 (addI .u64 (a 2) (shrI .u64 (addI .u64 (a 1) (shrI .u64 (a 0) 26)) 26)) 26)) 26)) 26)) 26)) 26)) 26)) 67108863), (addI .u64 (a 9) (shrI .u64 (addI .u64 (a 8) (shrI .u64 (addI .u64 (a 7) (shrI .u64 (addI .u64 (a 6) (shrI .u64 (addI .u64 (a 5) (shrI .u64 (addI .u64 (a 4) (shrI .u64 (addI .u64 (a 3) (shrI .u64 (addI .u64 (a 2) (shrI .u64 (addI .u64 (a 1) (shrI .u64 (a 0) 26)) 26)) 26)) 26)) 26)) 26)) 26)) 26)) 26))])
theorem rCarried_t (a : (Nat → Int)) : awp Try.prog o42 noG 300 (body Try.f117) (ends Try.prog Try.f117 fun v _ => okV (V.ints .u64 10 (rCarried a)) v) ⟨[(V.ints .u64 10 a)] ++ List.replicate 26 V.un, []⟩ = ((V.ints .u64 10 (rCarried a)).den z0 = (V.ints .u64 10 (rCarried a)).den z0) := by kernel_rfl
theorem rCarried_a (a : (Nat → Int)) : awp Try.prog o42 noG 300 (body Try.f117) (ends Try.prog Try.f117 fun v _ => okV (V.ints .u64 10 (rCarried a)) v) ⟨[(V.ints .u64 10 a)] ++ List.replicate 26 V.un, []⟩ := by rw [rCarried_t]
def g117 : List V → Option (Bool × V) := fun | [.ints .u64 10 a] => some (true, (V.ints .u64 10 (rCarried a))) | _ => none
theorem rCarried_p (a : (Nat → Int)) : (∀ μ μ', V.den μ' (V.ints .u64 10 (rCarried a)) = V.den μ (V.ints .u64 10 (rCarried a))) ∧ ∀ μ w, PureAt Try.prog 117 (([(V.ints .u64 10 a)] : List V).map (V.den μ)).toArray (V.den μ (V.ints .u64 10 (rCarried a))) w :=
  pure_ok (F := o42) (N := 300) (fn := Try.f117) (args := [(V.ints .u64 10 a)]) (r := (V.ints .u64 10 (rCarried a))) (n := 26) hM o42_ok (noG_ok _) Try.func117 (by kernel_rfl) (by kernel_rfl) (by kernel_rfl) (by kernel_rfl) (rCarried_a a) (by kernel_rfl)
theorem g117_ok (vs : List V) (v : V) (h : g117 vs = some (true, v)) : (∀ μ μ', v.den μ' = v.den μ) ∧ ∀ μ w, PureAt Try.prog 117 (vs.map (V.den μ)).toArray (v.den μ) w := by
  unfold g117 at h
  split at h
  · simp only [Option.some.injEq, Prod.mk.injEq, true_and] at h
    subst h
    exact rCarried_p _
  · simp at h
def o117 : Orc := ext 117 g117 o42
theorem o117_ok : OrcOK Try.prog o117 := ext_ok o42_ok g117_ok

/- fareboxref05.lessened -/
def rLess (a : (Nat → Int)) (b : (Nat → Int)) : (Nat → Int) := (L [(andI .u64 (subI .u64 (subI .u64 (addI .u64 (addI .u64 (a 0) 67108863) 1) (b 0)) 0) 67108863), (andI .u64 (subI .u64 (subI .u64 (addI .u64 (addI .u64 (a 1) 67108863) 1) (b 1)) (subI .u64 1 (shrI .u64 (subI .u64 (subI .u64 (addI .u64 (addI .u64 (a 0) 67108863) 1) (b 0)) 0) 26))) 67108863), (andI .u64 (subI .u64 (subI .u64 (addI .u64 (addI .u64 (a 2) 67108863) 1) (b 2)) (subI .u64 1 (shrI .u64 (subI .u64 (subI .u64 (addI .u64 (addI .u64 (a 1) 67108863) 1) (b 1)) (subI .u64 1 (shrI .u64 (subI .u64 (subI .u64 (addI .u64 (addI .u64 (a 0) 67108863) 1) (b 0)) 0) 26))) 26))) 67108863), (andI .u64 (subI .u64 (subI .u64 (addI .u64 (addI .u64 (a 3) 67108863) 1) (b 3)) (subI .u64 1 (shrI .u64 (subI .u64 (subI .u64 (addI .u64 (addI .u64 (a 2) 67108863) 1) (b 2)) (subI .u64 1 (shrI .u64 (subI .u64 (subI .u64 (addI .u64 (addI .u64 (a 1) 67108863) 1) (b 1)) (subI .u64 1 (shrI .u64 (subI .u64 (subI .u64 (addI .u64 (addI .u64 (a 0) 67108863) 1) (b 0)) 0) 26))) 26))) 26))) 67108863), (andI .u64 (subI .u64 (subI .u64 (addI .u64 (addI .u64 (a 4) 67108863) 1) (b 4)) (subI .u64 1 (shrI .u64 (subI .u64 (subI .u64 (addI .u64 (addI .u64 (a 3) 67108863) 1) (b 3)) (subI .u64 1 (shrI .u64 (subI .u64 (subI .u64 (addI .u64 (addI .u64 (a 2) 67108863) 1) (b 2)) (subI .u64 1 (shrI .u64 (subI .u64 (subI .u64 (addI .u64 (addI .u64 (a 1) 67108863) 1) (b 1)) (subI .u64 1 (shrI .u64 (subI .u64 (subI .u64 (addI .u64 (addI .u64 (a 0) 67108863) 1) (b 0)) 0) 26))) 26))) 26))) 26))) 67108863), (andI .u64 (subI .u64 (subI .u64 (addI .u64 (addI .u64 (a 5) 67108863) 1) (b 5)) (subI .u64 1 (shrI .u64 (subI .u64 (subI .u64 (addI .u64 (addI .u64 (a 4) 67108863) 1) (b 4)) (subI .u64 1 (shrI .u64 (subI .u64 (subI .u64 (addI .u64 (addI .u64 (a 3) 67108863) 1) (b 3)) (subI .u64 1 (shrI .u64 (subI .u64 (subI .u64 (addI .u64 (addI .u64 (a 2) 67108863) 1) (b 2)) (subI .u64 1 (shrI .u64 (subI .u64 (subI .u64 (addI .u64 (addI .u64 (a 1) 67108863) 1) (b 1)) (subI .u64 1 (shrI .u64 (subI .u64 (subI .u64 (addI .u64 (addI .u64 (a 0) 67108863) 1) (b 0)) 0) 26))) 26))) 26))) 26))) 26))) 67108863), (andI .u64 (subI .u64 (subI .u64 (addI .u64 (addI .u64 (a 6) 67108863) 1) (b 6)) (subI .u64 1 (shrI .u64 (subI .u64 (subI .u64 (addI .u64 (addI .u64 (a 5) 67108863) 1) (b 5)) (subI .u64 1 (shrI .u64 (subI .u64 (subI .u64 (addI .u64 (addI .u64 (a 4) 67108863) 1) (b 4)) (subI .u64 1 (shrI .u64 (subI .u64 (subI .u64 (addI .u64 (addI .u64 (a 3) 67108863) 1) (b 3)) (subI .u64 1 (shrI .u64 (subI .u64 (subI .u64 (addI .u64 (addI .u64 (a 2) 67108863) 1) (b 2)) (subI .u64 1 (shrI .u64 (subI .u64 (subI .u64 (addI .u64 (addI .u64 (a 1) 67108863) 1) (b 1)) (subI .u64 1 (shrI .u64 (subI .u64 (subI .u64 (addI .u64 (addI .u64 (a 0) 67108863) 1) (b 0)) 0) 26))) 26))) 26))) 26))) 26))) 26))) 67108863), (andI .u64 (subI .u64 (subI .u64 (addI .u64 (addI .u64 (a 7) 67108863) 1) (b 7)) (subI .u64 1 (shrI .u64 (subI .u64 (subI .u64 (addI .u64 (addI .u64 (a 6) 67108863) 1) (b 6)) (subI .u64 1 (shrI .u64 (subI .u64 (subI .u64 (addI .u64 (addI .u64 (a 5) 67108863) 1) (b 5)) (subI .u64 1 (shrI .u64 (subI .u64 (subI .u64 (addI .u64 (addI .u64 (a 4) 67108863) 1) (b 4)) (subI .u64 1 (shrI .u64 (subI .u64 (subI .u64 (addI .u64 (addI .u64 (a 3) 67108863) 1) (b 3)) (subI .u64 1 (shrI .u64 (subI .u64 (subI .u64 (addI .u64 (addI .u64 (a 2) 67108863) 1) (b 2)) (subI .u64 1 (shrI .u64 (subI .u64 (subI .u64 (addI .u64 (addI .u64 (a 1) 67108863) 1) (b 1)) (subI .u64 1 (shrI .u64 (subI .u64 (subI .u64 (addI .u64 (addI .u64 (a 0) 67108863) 1) (b 0)) 0) 26))) 26))) 26))) 26))) 26))) 26))) 26))) 67108863), (andI .u64 (subI .u64 (subI .u64 (addI .u64 (addI .u64 (a 8) 67108863) 1) (b 8)) (subI .u64 1 (shrI .u64 (subI .u64 (subI .u64 (addI .u64 (addI .u64 (a 7) 67108863) 1) (b 7)) (subI .u64 1 (shrI .u64 (subI .u64 (subI .u64 (addI .u64 (addI .u64 (a 6) 67108863) 1) (b 6)) (subI .u64 1 (shrI .u64 (subI .u64 (subI .u64 (addI .u64 (addI .u64 (a 5) 67108863) 1) (b 5)) (subI .u64 1 (shrI .u64 (subI .u64 (subI .u64 (addI .u64 (addI .u64 (a 4) 67108863) 1) (b 4)) (subI .u64 1 (shrI .u64 (subI .u64 (subI .u64 (addI .u64 (addI .u64 (a 3) 67108863) 1) (b 3)) (subI .u64 1 (shrI .u64 (subI .u64 (subI .u64 (addI .u64 (addI .u64 (a 2) 67108863) 1) (b 2)) (subI .u64 1 (shrI .u64 (subI .u64 (subI .u64 (addI .u64 (addI .u64 (a 1) 67108863) 1) (b 1)) (subI .u64 1 (shrI .u64 (subI .u64 (subI .u64 (addI .u64 (addI .u64 (a 0) 67108863) 1) (b 0)) 0) 26))) 26))) 26))) 26))) 26))) 26))) 26))) 26))) 67108863), (andI .u64 (subI .u64 (subI .u64 (addI .u64 (addI .u64 (a 9) 67108863) 1) (b 9)) (subI .u64 1 (shrI .u64 (subI .u64 (subI .u64 (addI .u64 (addI .u64 (a 8) 67108863) 1) (b 8)) (subI .u64 1 (shrI .u64 (subI .u64 (subI .u64 (addI .u64 (addI .u64 (a 7) 67108863) 1) (b 7)) (subI .u64 1 (shrI .u64 (subI .u64 (subI .u64 (addI .u64 (addI .u64 (a 6) 67108863) 1) (b 6)) (subI .u64 1 (shrI .u64 (subI .u64 (subI .u64 (addI .u64 (addI .u64 (a 5) 67108863) 1) (b 5)) (subI .u64 1 (shrI .u64 (subI .u64 (subI .u64 (addI .u64 (addI .u64 (a 4) 67108863) 1) (b 4)) (subI .u64 1 (shrI .u64 (subI .u64 (subI .u64 (addI .u64 (addI .u64 (a 3) 67108863) 1) (b 3)) (subI .u64 1 (shrI .u64 (subI .u64 (subI .u64 (addI .u64 (addI .u64 (a 2) 67108863) 1) (b 2)) (subI .u64 1 (shrI .u64 (subI .u64 (subI .u64 (addI .u64 (addI .u64 (a 1) 67108863) 1) (b 1)) (subI .u64 1 (shrI .u64 (subI .u64 (subI .u64 (addI .u64 (addI .u64 (a 0) 67108863) 1) (b 0)) 0) 26))) 26))) 26))) 26))) 26))) 26))) 26))) 26))) 26))) 67108863)])
theorem rLess_t (a : (Nat → Int)) (b : (Nat → Int)) : awp Try.prog o117 noG 300 (body Try.f86) (ends Try.prog Try.f86 fun v _ => okV (V.ints .u64 10 (rLess a b)) v) ⟨[(V.ints .u64 10 a), (V.ints .u64 10 b)] ++ List.replicate 29 V.un, []⟩ = ((V.ints .u64 10 (rLess a b)).den z0 = (V.ints .u64 10 (rLess a b)).den z0) := by kernel_rfl
theorem rLess_a (a : (Nat → Int)) (b : (Nat → Int)) : awp Try.prog o117 noG 300 (body Try.f86) (ends Try.prog Try.f86 fun v _ => okV (V.ints .u64 10 (rLess a b)) v) ⟨[(V.ints .u64 10 a), (V.ints .u64 10 b)] ++ List.replicate 29 V.un, []⟩ := by rw [rLess_t]
def g86 : List V → Option (Bool × V) := fun | [.ints .u64 10 a, .ints .u64 10 b] => some (true, (V.ints .u64 10 (rLess a b))) | _ => none
theorem rLess_p (a : (Nat → Int)) (b : (Nat → Int)) : (∀ μ μ', V.den μ' (V.ints .u64 10 (rLess a b)) = V.den μ (V.ints .u64 10 (rLess a b))) ∧ ∀ μ w, PureAt Try.prog 86 (([(V.ints .u64 10 a), (V.ints .u64 10 b)] : List V).map (V.den μ)).toArray (V.den μ (V.ints .u64 10 (rLess a b))) w :=
  pure_ok (F := o117) (N := 300) (fn := Try.f86) (args := [(V.ints .u64 10 a), (V.ints .u64 10 b)]) (r := (V.ints .u64 10 (rLess a b))) (n := 29) hM o117_ok (noG_ok _) Try.func86 (by kernel_rfl) (by kernel_rfl) (by kernel_rfl) (by kernel_rfl) (rLess_a a b) (by kernel_rfl)
theorem g86_ok (vs : List V) (v : V) (h : g86 vs = some (true, v)) : (∀ μ μ', v.den μ' = v.den μ) ∧ ∀ μ w, PureAt Try.prog 86 (vs.map (V.den μ)).toArray (v.den μ) w := by
  unfold g86 at h
  split at h
  · simp only [Option.some.injEq, Prod.mk.injEq, true_and] at h
    subst h
    exact rLess_p _ _
  · simp at h
def o86 : Orc := ext 86 g86 o117
theorem o86_ok : OrcOK Try.prog o86 := ext_ok o117_ok g86_ok

/- fareboxref05.prime -/
def rPrime : (Nat → Int) := (L [67108845, 67108863, 67108863, 67108863, 67108863, 67108863, 67108863, 67108863, 67108863, 2097151])
theorem rPrime_t : awp Try.prog o86 noG 300 (body Try.f87) (ends Try.prog Try.f87 fun v _ => okV (V.ints .u64 10 rPrime) v) ⟨[] ++ List.replicate 2 V.un, []⟩ = ((V.ints .u64 10 rPrime).den z0 = (V.ints .u64 10 rPrime).den z0) := by kernel_rfl
theorem rPrime_a : awp Try.prog o86 noG 300 (body Try.f87) (ends Try.prog Try.f87 fun v _ => okV (V.ints .u64 10 rPrime) v) ⟨[] ++ List.replicate 2 V.un, []⟩ := by rw [rPrime_t]
def g87 : List V → Option (Bool × V) := fun | [] => some (true, (V.ints .u64 10 rPrime)) | _ => none
theorem rPrime_p : (∀ μ μ', V.den μ' (V.ints .u64 10 rPrime) = V.den μ (V.ints .u64 10 rPrime)) ∧ ∀ μ w, PureAt Try.prog 87 (([] : List V).map (V.den μ)).toArray (V.den μ (V.ints .u64 10 rPrime)) w :=
  pure_ok (F := o86) (N := 300) (fn := Try.f87) (args := []) (r := (V.ints .u64 10 rPrime)) (n := 2) hM o86_ok (noG_ok _) Try.func87 (by kernel_rfl) (by kernel_rfl) (by kernel_rfl) (by kernel_rfl) (rPrime_a) (by kernel_rfl)
theorem g87_ok (vs : List V) (v : V) (h : g87 vs = some (true, v)) : (∀ μ μ', v.den μ' = v.den μ) ∧ ∀ μ w, PureAt Try.prog 87 (vs.map (V.den μ)).toArray (v.den μ) w := by
  unfold g87 at h
  split at h
  · simp only [Option.some.injEq, Prod.mk.injEq, true_and] at h
    subst h
    exact rPrime_p
  · simp at h
def o87 : Orc := ext 87 g87 o86
theorem o87_ok : OrcOK Try.prog o87 := ext_ok o86_ok g87_ok

/- fareboxref05.below -/
def rBelow (a : (Nat → Int)) (b : (Nat → Int)) : Bool := (cond ((a 9) != (b 9)) (decide ((a 9) < (b 9))) (cond ((a 8) != (b 8)) (decide ((a 8) < (b 8))) (cond ((a 7) != (b 7)) (decide ((a 7) < (b 7))) (cond ((a 6) != (b 6)) (decide ((a 6) < (b 6))) (cond ((a 5) != (b 5)) (decide ((a 5) < (b 5))) (cond ((a 4) != (b 4)) (decide ((a 4) < (b 4))) (cond ((a 3) != (b 3)) (decide ((a 3) < (b 3))) (cond ((a 2) != (b 2)) (decide ((a 2) < (b 2))) (cond ((a 1) != (b 1)) (decide ((a 1) < (b 1))) (cond ((a 0) != (b 0)) (decide ((a 0) < (b 0))) false))))))))))
theorem rBelow_t (a : (Nat → Int)) (b : (Nat → Int)) : awp Try.prog o87 noG 300 (body Try.f118) (ends Try.prog Try.f118 fun v _ => okV (V.bool (rBelow a b)) v) ⟨[(V.ints .u64 10 a), (V.ints .u64 10 b)] ++ List.replicate 22 V.un, []⟩ = (mB ((a 9) != (b 9)) ((V.bool (decide ((a 9) < (b 9)))).den z0 = (V.bool (rBelow a b)).den z0) (mB ((a 8) != (b 8)) ((V.bool (decide ((a 8) < (b 8)))).den z0 = (V.bool (rBelow a b)).den z0) (mB ((a 7) != (b 7)) ((V.bool (decide ((a 7) < (b 7)))).den z0 = (V.bool (rBelow a b)).den z0) (mB ((a 6) != (b 6)) ((V.bool (decide ((a 6) < (b 6)))).den z0 = (V.bool (rBelow a b)).den z0) (mB ((a 5) != (b 5)) ((V.bool (decide ((a 5) < (b 5)))).den z0 = (V.bool (rBelow a b)).den z0) (mB ((a 4) != (b 4)) ((V.bool (decide ((a 4) < (b 4)))).den z0 = (V.bool (rBelow a b)).den z0) (mB ((a 3) != (b 3)) ((V.bool (decide ((a 3) < (b 3)))).den z0 = (V.bool (rBelow a b)).den z0) (mB ((a 2) != (b 2)) ((V.bool (decide ((a 2) < (b 2)))).den z0 = (V.bool (rBelow a b)).den z0) (mB ((a 1) != (b 1)) ((V.bool (decide ((a 1) < (b 1)))).den z0 = (V.bool (rBelow a b)).den z0) (mB ((a 0) != (b 0)) ((V.bool (decide ((a 0) < (b 0)))).den z0 = (V.bool (rBelow a b)).den z0) ((V.bool false).den z0 = (V.bool (rBelow a b)).den z0))))))))))) := by kernel_rfl
theorem rBelow_a (a : (Nat → Int)) (b : (Nat → Int)) : awp Try.prog o87 noG 300 (body Try.f118) (ends Try.prog Try.f118 fun v _ => okV (V.bool (rBelow a b)) v) ⟨[(V.ints .u64 10 a), (V.ints .u64 10 b)] ++ List.replicate 22 V.un, []⟩ := by
  rw [rBelow_t]
  refine mBt (fun h1 => ?_) (fun h1 => ?_)
  · simp only [rBelow, h1, cond_true]
  · refine mBt (fun h2 => ?_) (fun h2 => ?_)
    · simp only [rBelow, h1, h2, cond_true, cond_false]
    · refine mBt (fun h3 => ?_) (fun h3 => ?_)
      · simp only [rBelow, h1, h2, h3, cond_true, cond_false]
      · refine mBt (fun h4 => ?_) (fun h4 => ?_)
        · simp only [rBelow, h1, h2, h3, h4, cond_true, cond_false]
        · refine mBt (fun h5 => ?_) (fun h5 => ?_)
          · simp only [rBelow, h1, h2, h3, h4, h5, cond_true, cond_false]
          · refine mBt (fun h6 => ?_) (fun h6 => ?_)
            · simp only [rBelow, h1, h2, h3, h4, h5, h6, cond_true, cond_false]
            · refine mBt (fun h7 => ?_) (fun h7 => ?_)
              · simp only [rBelow, h1, h2, h3, h4, h5, h6, h7, cond_true, cond_false]
              · refine mBt (fun h8 => ?_) (fun h8 => ?_)
                · simp only [rBelow, h1, h2, h3, h4, h5, h6, h7, h8, cond_true, cond_false]
                · refine mBt (fun h9 => ?_) (fun h9 => ?_)
                  · simp only [rBelow, h1, h2, h3, h4, h5, h6, h7, h8, h9, cond_true, cond_false]
                  · refine mBt (fun h10 => ?_) (fun h10 => ?_)
                    · simp only [rBelow, h1, h2, h3, h4, h5, h6, h7, h8, h9, h10, cond_true, cond_false]
                    · simp only [rBelow, h1, h2, h3, h4, h5, h6, h7, h8, h9, h10, cond_false]
def g118 : List V → Option (Bool × V) := fun | [.ints .u64 10 a, .ints .u64 10 b] => some (true, (V.bool (rBelow a b))) | _ => none
theorem rBelow_p (a : (Nat → Int)) (b : (Nat → Int)) : (∀ μ μ', V.den μ' (V.bool (rBelow a b)) = V.den μ (V.bool (rBelow a b))) ∧ ∀ μ w, PureAt Try.prog 118 (([(V.ints .u64 10 a), (V.ints .u64 10 b)] : List V).map (V.den μ)).toArray (V.den μ (V.bool (rBelow a b))) w :=
  pure_ok (F := o87) (N := 300) (fn := Try.f118) (args := [(V.ints .u64 10 a), (V.ints .u64 10 b)]) (r := (V.bool (rBelow a b))) (n := 22) hM o87_ok (noG_ok _) Try.func118 (by kernel_rfl) (by kernel_rfl) (by kernel_rfl) (by kernel_rfl) (rBelow_a a b) (by kernel_rfl)
theorem g118_ok (vs : List V) (v : V) (h : g118 vs = some (true, v)) : (∀ μ μ', v.den μ' = v.den μ) ∧ ∀ μ w, PureAt Try.prog 118 (vs.map (V.den μ)).toArray (v.den μ) w := by
  unfold g118 at h
  split at h
  · simp only [Option.some.injEq, Prod.mk.injEq, true_and] at h
    subst h
    exact rBelow_p _ _
  · simp at h
def o118 : Orc := ext 118 g118 o87
theorem o118_ok : OrcOK Try.prog o118 := ext_ok o87_ok g118_ok

/- fareboxref05.IsZero -/
def rIsZero (a : (Nat → Int)) : Bool := (eqN 10 a (fun _ => 0))
theorem rIsZero_t (a : (Nat → Int)) : awp Try.prog o118 noG 300 (body Try.f24) (ends Try.prog Try.f24 fun v _ => okV (V.bool (rIsZero a)) v) ⟨[(V.ints .u64 10 a)] ++ List.replicate 5 V.un, []⟩ = ((V.bool (rIsZero a)).den z0 = (V.bool (rIsZero a)).den z0) := by kernel_rfl
theorem rIsZero_a (a : (Nat → Int)) : awp Try.prog o118 noG 300 (body Try.f24) (ends Try.prog Try.f24 fun v _ => okV (V.bool (rIsZero a)) v) ⟨[(V.ints .u64 10 a)] ++ List.replicate 5 V.un, []⟩ := by rw [rIsZero_t]
def g24 : List V → Option (Bool × V) := fun | [.ints .u64 10 a] => some (true, (V.bool (rIsZero a))) | _ => none
theorem rIsZero_p (a : (Nat → Int)) : (∀ μ μ', V.den μ' (V.bool (rIsZero a)) = V.den μ (V.bool (rIsZero a))) ∧ ∀ μ w, PureAt Try.prog 24 (([(V.ints .u64 10 a)] : List V).map (V.den μ)).toArray (V.den μ (V.bool (rIsZero a))) w :=
  pure_ok (F := o118) (N := 300) (fn := Try.f24) (args := [(V.ints .u64 10 a)]) (r := (V.bool (rIsZero a))) (n := 5) hM o118_ok (noG_ok _) Try.func24 (by kernel_rfl) (by kernel_rfl) (by kernel_rfl) (by kernel_rfl) (rIsZero_a a) (by kernel_rfl)
theorem g24_ok (vs : List V) (v : V) (h : g24 vs = some (true, v)) : (∀ μ μ', v.den μ' = v.den μ) ∧ ∀ μ w, PureAt Try.prog 24 (vs.map (V.den μ)).toArray (v.den μ) w := by
  unfold g24 at h
  split at h
  · simp only [Option.some.injEq, Prod.mk.injEq, true_and] at h
    subst h
    exact rIsZero_p _
  · simp at h
def o24 : Orc := ext 24 g24 o118
theorem o24_ok : OrcOK Try.prog o24 := ext_ok o118_ok g24_ok

/- fareboxref05.IsOdd -/
def rIsOdd (a : (Nat → Int)) : Bool := ((andI .u64 (a 0) 1) == 1)
theorem rIsOdd_t (a : (Nat → Int)) : awp Try.prog o24 noG 300 (body Try.f26) (ends Try.prog Try.f26 fun v _ => okV (V.bool (rIsOdd a)) v) ⟨[(V.ints .u64 10 a)] ++ List.replicate 6 V.un, []⟩ = ((V.bool (rIsOdd a)).den z0 = (V.bool (rIsOdd a)).den z0) := by kernel_rfl
theorem rIsOdd_a (a : (Nat → Int)) : awp Try.prog o24 noG 300 (body Try.f26) (ends Try.prog Try.f26 fun v _ => okV (V.bool (rIsOdd a)) v) ⟨[(V.ints .u64 10 a)] ++ List.replicate 6 V.un, []⟩ := by rw [rIsOdd_t]
def g26 : List V → Option (Bool × V) := fun | [.ints .u64 10 a] => some (true, (V.bool (rIsOdd a))) | _ => none
theorem rIsOdd_p (a : (Nat → Int)) : (∀ μ μ', V.den μ' (V.bool (rIsOdd a)) = V.den μ (V.bool (rIsOdd a))) ∧ ∀ μ w, PureAt Try.prog 26 (([(V.ints .u64 10 a)] : List V).map (V.den μ)).toArray (V.den μ (V.bool (rIsOdd a))) w :=
  pure_ok (F := o24) (N := 300) (fn := Try.f26) (args := [(V.ints .u64 10 a)]) (r := (V.bool (rIsOdd a))) (n := 6) hM o24_ok (noG_ok _) Try.func26 (by kernel_rfl) (by kernel_rfl) (by kernel_rfl) (by kernel_rfl) (rIsOdd_a a) (by kernel_rfl)
theorem g26_ok (vs : List V) (v : V) (h : g26 vs = some (true, v)) : (∀ μ μ', v.den μ' = v.den μ) ∧ ∀ μ w, PureAt Try.prog 26 (vs.map (V.den μ)).toArray (v.den μ) w := by
  unfold g26 at h
  split at h
  · simp only [Option.some.injEq, Prod.mk.injEq, true_and] at h
    subst h
    exact rIsOdd_p _
  · simp at h
def o26 : Orc := ext 26 g26 o24
theorem o26_ok : OrcOK Try.prog o26 := ext_ok o24_ok g26_ok

theorem rLeast_h (x : (Nat → Int)) (K : V → List V → Prop) : awp Try.prog o26 noG 300 (body Try.f85) (ends Try.prog Try.f85 K) ⟨[(V.ints .u64 10 x)] ++ List.replicate 31 V.un, []⟩ = lp (awp Try.prog o26 noG 300 (loopOf (body Try.f85))) (spineQ Try.prog o26 noG 300 (body Try.f85) (ends Try.prog Try.f85 K)) 300 ⟨[(V.ints .u64 10 x), (V.ptr 0 0), (V.ptr 1 0), V.un, (V.ints .u64 10 x), (V.ints .u64 10 (rCarried x)), V.un, V.un, V.un, V.un, V.un, V.un, V.un, V.un, V.un, V.un, V.un, V.un, V.un, V.un, V.un, V.un, V.un, V.un, V.un, V.un, V.un, V.un, V.un, V.un, V.un, V.un], [(V.ints .u64 10 (rCarried x)), (V.ints .u64 10 (fun _ => 0))]⟩ := by kernel_rfl
theorem rLeast_s (x : (Nat → Int)) (a : Nat → Int) (t6 t7 t8 t9 t10 t11 t12 t13 t14 t15 t16 t17 t18 t19 t20 t21 t22 : V) (Q : Exit → St → Prop) (n : Nat) : lp (awp Try.prog o26 noG 300 (loopOf (body Try.f85))) Q (n + 1) ⟨[(V.ints .u64 10 x), (V.ptr 0 0), (V.ptr 1 0), V.un, (V.ints .u64 10 x), (V.ints .u64 10 (rCarried x)), t6, t7, t8, t9, t10, t11, t12, t13, t14, t15, t16, t17, t18, t19, t20, t21, t22, V.un, V.un, V.un, V.un, V.un, V.un, V.un, V.un, V.un], [(V.ints .u64 10 a), (V.ints .u64 10 (fun _ => 0))]⟩ = (mB (decide ((a 9) > 2097151)) (lp (awp Try.prog o26 noG 300 (loopOf (body Try.f85))) Q n ⟨[(V.ints .u64 10 x), (V.ptr 0 0), (V.ptr 1 0), V.un, (V.ints .u64 10 x), (V.ints .u64 10 (rCarried x)), (V.ptr 0 9), (V.int .u64 (a 9)), (V.bool (decide ((a 9) > 2097151))), (V.ptr 0 0), (V.int .u64 (a 0)), (V.ptr 0 9), (V.int .u64 (a 9)), (V.int .u64 (shrI .u64 (a 9) 21)), (V.int .u64 (mulI .u64 19 (shrI .u64 (a 9) 21))), (V.int .u64 (addI .u64 (a 0) (mulI .u64 19 (shrI .u64 (a 9) 21)))), (V.ptr 0 0), (V.ptr 0 9), (V.int .u64 (a 9)), (V.int .u64 (andI .u64 (a 9) 2097151)), (V.ptr 0 9), (V.ints .u64 10 (up 9 (andI .u64 (a 9) 2097151) (up 0 (addI .u64 (a 0) (mulI .u64 19 (shrI .u64 (a 9) 21))) a))), (V.ints .u64 10 (rCarried (up 9 (andI .u64 (a 9) 2097151) (up 0 (addI .u64 (a 0) (mulI .u64 19 (shrI .u64 (a 9) 21))) a)))), V.un, V.un, V.un, V.un, V.un, V.un, V.un, V.un, V.un], [(V.ints .u64 10 (rCarried (up 9 (andI .u64 (a 9) 2097151) (up 0 (addI .u64 (a 0) (mulI .u64 19 (shrI .u64 (a 9) 21))) a)))), (V.ints .u64 10 (fun _ => 0))]⟩) (Q (.exit 0) ⟨[(V.ints .u64 10 x), (V.ptr 0 0), (V.ptr 1 0), V.un, (V.ints .u64 10 x), (V.ints .u64 10 (rCarried x)), (V.ptr 0 9), (V.int .u64 (a 9)), (V.bool (decide ((a 9) > 2097151))), t9, t10, t11, t12, t13, t14, t15, t16, t17, t18, t19, t20, t21, t22, V.un, V.un, V.un, V.un, V.un, V.un, V.un, V.un, V.un], [(V.ints .u64 10 a), (V.ints .u64 10 (fun _ => 0))]⟩)) := by kernel_rfl
theorem rLeast_x (x : (Nat → Int)) (a : Nat → Int) (t6 t7 t8 t9 t10 t11 t12 t13 t14 t15 t16 t17 t18 t19 t20 t21 t22 : V) (R : V) : spineQ Try.prog o26 noG 300 (body Try.f85) (ends Try.prog Try.f85 fun v _ => okV R v) (.exit 0) ⟨[(V.ints .u64 10 x), (V.ptr 0 0), (V.ptr 1 0), V.un, (V.ints .u64 10 x), (V.ints .u64 10 (rCarried x)), t6, t7, t8, t9, t10, t11, t12, t13, t14, t15, t16, t17, t18, t19, t20, t21, t22, V.un, V.un, V.un, V.un, V.un, V.un, V.un, V.un, V.un], [(V.ints .u64 10 a), (V.ints .u64 10 (fun _ => 0))]⟩ = (mB (!(rBelow a rPrime)) (okV R (V.ints .u64 10 (rLess a rPrime))) (okV R (V.ints .u64 10 a))) := by kernel_rfl
end Go.Proofs.Ytbnclikjbnfodaa

/-
  Plain facts on the words that the evaluator writes for unsigned numbers. Conditions: none.
-/
namespace Go.Ev

theorem wrap_u64 (a : Int) : IntKind.wrap .u64 a = a % 18446744073709551616 := by simp [IntKind.wrap, IntKind.bits, IntKind.signed]
theorem addU (a b : Int) : addI .u64 a b = (a + b) % 18446744073709551616 := wrap_u64 _
theorem subU (a b : Int) : subI .u64 a b = (a - b) % 18446744073709551616 := wrap_u64 _
theorem mulU (a b : Int) : mulI .u64 a b = (a * b) % 18446744073709551616 := wrap_u64 _
theorem shrU (a : Int) (k : Nat) (hk : k ≤ 64) : shrI .u64 a (k : Int) = a / 2 ^ k := by
  unfold shrI
  rw [show min (Int.toNat (k : Int)) (IntKind.bits .u64) = k from Nat.min_eq_left hk]
  exact Int.fdiv_eq_ediv_of_nonneg _ (by exact_mod_cast Nat.zero_le (2 ^ k))
theorem shlU (a : Int) (k : Nat) (hk : k ≤ 64) : shlI .u64 a (k : Int) = (a * 2 ^ k) % 18446744073709551616 := by
  unfold shlI
  rw [show min (Int.toNat (k : Int)) (IntKind.bits .u64) = k from Nat.min_eq_left hk]
  exact wrap_u64 _
theorem shr51 (a : Int) : shrI .u64 a 51 = a / 2251799813685248 := shrU a 51 (by omega)
theorem shr26 (a : Int) : shrI .u64 a 26 = a / 67108864 := shrU a 26 (by omega)
theorem shr21 (a : Int) : shrI .u64 a 21 = a / 2097152 := shrU a 21 (by omega)
theorem and_mask (a : Int) (k : Nat) (hk : k ≤ 64) : andI .u64 a (2 ^ k - 1) = a % 2 ^ k := by
  unfold andI bits2
  have hpos : (0 : Int) < 2 ^ k := by exact_mod_cast Nat.two_pow_pos k
  have hcast : ((2 ^ k : Nat) : Int) = 2 ^ k := by simp
  have hle : (2 : Int) ^ k ≤ 18446744073709551616 := by
    have h1 : (2 : Nat) ^ k ≤ 2 ^ 64 := Nat.pow_le_pow_right (by omega) hk
    have h2 : (2 : Nat) ^ 64 = 18446744073709551616 := by decide
    omega
  have e1 : (BitVec.ofInt (IntKind.bits .u64) a).toNat = (a % 18446744073709551616).toNat := by
    rw [BitVec.toNat_ofInt]; rfl
  have e2 : (BitVec.ofInt (IntKind.bits .u64) (2 ^ k - 1)).toNat = 2 ^ k - 1 := by
    have : (2 ^ k - 1 : Int) % 18446744073709551616 = 2 ^ k - 1 := Int.emod_eq_of_lt (by omega) (by omega)
    rw [BitVec.toNat_ofInt]
    show ((2 ^ k - 1 : Int) % 18446744073709551616).toNat = _
    rw [this]
    have h1 : 0 < 2 ^ k := Nat.two_pow_pos k
    have h2 : ((2 ^ k : Nat) : Int) = 2 ^ k := by simp
    omega
  rw [BitVec.toNat_and, e1, e2, Nat.and_two_pow_sub_one_eq_mod, wrap_u64]
  have h0 : 0 ≤ a % 18446744073709551616 := Int.emod_nonneg _ (by omega)
  rw [Int.natCast_emod, Int.toNat_of_nonneg h0]
  have hd : (2 : Int) ^ k ∣ 18446744073709551616 := by
    have : (2 : Int) ^ 64 = 18446744073709551616 := by decide
    rw [← this]; exact_mod_cast Nat.pow_dvd_pow 2 hk
  have : ((2 ^ k : Nat) : Int) = 2 ^ k := by simp
  rw [this, Int.emod_emod_of_dvd _ hd]
  exact Int.emod_eq_of_lt (Int.emod_nonneg _ (by omega)) (Int.lt_of_lt_of_le (Int.emod_lt_of_pos _ hpos) hle)
theorem and51 (a : Int) : andI .u64 a 2251799813685247 = a % 2251799813685248 := and_mask a 51 (by omega)
theorem and26 (a : Int) : andI .u64 a 67108863 = a % 67108864 := and_mask a 26 (by omega)
theorem and21 (a : Int) : andI .u64 a 2097151 = a % 2097152 := and_mask a 21 (by omega)
theorem and1 (a : Int) : andI .u64 a 1 = a % 2 := and_mask a 1 (by omega)
end Go.Ev

namespace Go.Ev
theorem wrap_i64 (a : Int) (h : -9223372036854775808 ≤ a ∧ a < 9223372036854775808) : IntKind.wrap .i64 a = a := IntWalk.i64_in a (by omega)
theorem quo_nat (k m : Nat) (hk : k < 2147483648) : quoI .i64 (k : Int) (m : Int) = ((k / m : Nat) : Int) := by
  unfold quoI
  have h1 : (k : Int).tdiv (m : Int) = ((k / m : Nat) : Int) := by simp [Int.tdiv]
  have h2 : k / m ≤ k := Nat.div_le_self k m
  rw [h1]
  generalize k / m = q at *
  exact wrap_i64 _ (by omega)
theorem rem_nat (k m : Nat) : remI (k : Int) (m : Int) = ((k % m : Nat) : Int) := by unfold remI; simp [Int.tmod]
theorem add1_nat (k : Nat) (hk : k < 2147483648) : addI .i64 (k : Int) 1 = ((k + 1 : Nat) : Int) := by
  unfold addI; rw [wrap_i64 _ (by omega)]; omega
theorem sub1_nat (k : Nat) (hk : k < 2147483648) : subI .i64 (k : Int) 1 = (k : Int) - 1 := by
  unfold subI; rw [wrap_i64 _ (by omega)]
end Go.Ev

/-
  The document's Least: a number of ten digits of any size, brought below p. Conditions: none.
-/
namespace Go.Proofs.Ytbnclikjbnfodaa
open Go.Ev

def rFold (a : Nat → Int) : Nat → Int := rCarried (up 9 (andI .u64 (a 9) 2097151) (up 0 (addI .u64 (a 0) (mulI .u64 19 (shrI .u64 (a 9) 21))) a))
def rFin (a : Nat → Int) : Nat → Int := cond (!(rBelow a rPrime)) (rLess a rPrime) a
def rLeast (x : Nat → Int) : Nat → Int :=
  cond (decide ((rCarried x) 9 > 2097151))
    (cond (decide ((rFold (rCarried x)) 9 > 2097151)) (rFin (rFold (rFold (rCarried x)))) (rFin (rFold (rCarried x))))
    (rFin (rCarried x))

theorem carried_at (a : Nat → Int) : ∀ j, j < 9 → 0 ≤ rCarried a j ∧ rCarried a j < 67108864 := by
  intro j hj
  have key : ∀ x : Int, 0 ≤ andI .u64 x 67108863 ∧ andI .u64 x 67108863 < 67108864 := fun x => by rw [and26]; omega
  have h : j = 0 ∨ j = 1 ∨ j = 2 ∨ j = 3 ∨ j = 4 ∨ j = 5 ∨ j = 6 ∨ j = 7 ∨ j = 8 := by omega
  rcases h with rfl | rfl | rfl | rfl | rfl | rfl | rfl | rfl | rfl <;> exact key _

/-- The chain of carries, one by one. -/
def cc (a : Nat → Int) : Nat → Int
  | 0 => a 0
  | n + 1 => addI .u64 (a (n + 1)) (shrI .u64 (cc a n) 26)

theorem carried_cc (a : Nat → Int) (j : Nat) (hj : j < 9) : rCarried a j = andI .u64 (cc a j) 67108863 := by
  have h : j = 0 ∨ j = 1 ∨ j = 2 ∨ j = 3 ∨ j = 4 ∨ j = 5 ∨ j = 6 ∨ j = 7 ∨ j = 8 := by omega
  rcases h with rfl | rfl | rfl | rfl | rfl | rfl | rfl | rfl | rfl <;> rfl
theorem carried_top (a : Nat → Int) : rCarried a 9 = cc a 9 := rfl

theorem carried9 (a : Nat → Int) : 0 ≤ rCarried a 9 ∧ rCarried a 9 < 18446744073709551616 := by
  rw [carried_top]; simp only [cc, addU]; omega

/-- A fold of carried digits: the topmost is at most one above its bound; of digits whose topmost is one above it, it is small. -/
theorem fold_small (a : Nat → Int) (h : ∀ j, j < 9 → 0 ≤ a j ∧ a j < 67108864) (h9 : 0 ≤ a 9 ∧ a 9 < 18446744073709551616) :
    rFold a 9 ≤ a 9 % 2097152 + 1 ∧ (∀ j, j < 9 → 0 ≤ rFold a j ∧ rFold a j < 67108864) ∧ 0 ≤ rFold a 9 := by
  refine ⟨?_, carried_at _, (carried9 _).1⟩
  have e : rFold a 9 = addI .u64 (andI .u64 (a 9) 2097151) (shrI .u64 (addI .u64 (a 8) (shrI .u64 (addI .u64 (a 7) (shrI .u64 (addI .u64 (a 6) (shrI .u64 (addI .u64 (a 5) (shrI .u64 (addI .u64 (a 4) (shrI .u64 (addI .u64 (a 3) (shrI .u64 (addI .u64 (a 2) (shrI .u64 (addI .u64 (a 1) (shrI .u64 (addI .u64 (a 0) (mulI .u64 19 (shrI .u64 (a 9) 21))) 26)) 26)) 26)) 26)) 26)) 26)) 26)) 26)) 26) := by kernel_rfl
  rw [e]
  simp only [addU, mulU, shr21, shr26, and21]
  have b0 := h 0 (by omega)
  have b1 := h 1 (by omega)
  have b2 := h 2 (by omega)
  have b3 := h 3 (by omega)
  have b4 := h 4 (by omega)
  have b5 := h 5 (by omega)
  have b6 := h 6 (by omega)
  have b7 := h 7 (by omega)
  have b8 := h 8 (by omega)
  generalize a 0 = a0 at *
  generalize a 1 = a1 at *
  generalize a 2 = a2 at *
  generalize a 3 = a3 at *
  generalize a 4 = a4 at *
  generalize a 5 = a5 at *
  generalize a 6 = a6 at *
  generalize a 7 = a7 at *
  generalize a 8 = a8 at *
  generalize a 9 = a9 at *
  have sm : ∀ x : Int, 0 ≤ x → x < 18446744073709551616 → x % 18446744073709551616 = x := fun x h0 h1 => Int.emod_eq_of_lt h0 h1
  have q9 : 0 ≤ a9 / 2097152 ∧ a9 / 2097152 ≤ 8796093022207 := by omega
  generalize a9 / 2097152 = q at *
  rw [sm (19 * q) (by omega) (by omega), sm (a0 + 19 * q) (by omega) (by omega)]
  have e0 : 0 ≤ (a0 + 19 * q) / 67108864 ∧ (a0 + 19 * q) / 67108864 ≤ 2490369 := by omega
  generalize (a0 + 19 * q) / 67108864 = d0 at *
  rw [sm (a1 + d0) (by omega) (by omega)]
  have e1 : 0 ≤ (a1 + d0) / 67108864 ∧ (a1 + d0) / 67108864 ≤ 1 := by omega
  generalize (a1 + d0) / 67108864 = d1 at *
  rw [sm (a2 + d1) (by omega) (by omega)]
  have e2 : 0 ≤ (a2 + d1) / 67108864 ∧ (a2 + d1) / 67108864 ≤ 1 := by omega
  generalize (a2 + d1) / 67108864 = d2 at *
  rw [sm (a3 + d2) (by omega) (by omega)]
  have e3 : 0 ≤ (a3 + d2) / 67108864 ∧ (a3 + d2) / 67108864 ≤ 1 := by omega
  generalize (a3 + d2) / 67108864 = d3 at *
  rw [sm (a4 + d3) (by omega) (by omega)]
  have e4 : 0 ≤ (a4 + d3) / 67108864 ∧ (a4 + d3) / 67108864 ≤ 1 := by omega
  generalize (a4 + d3) / 67108864 = d4 at *
  rw [sm (a5 + d4) (by omega) (by omega)]
  have e5 : 0 ≤ (a5 + d4) / 67108864 ∧ (a5 + d4) / 67108864 ≤ 1 := by omega
  generalize (a5 + d4) / 67108864 = d5 at *
  rw [sm (a6 + d5) (by omega) (by omega)]
  have e6 : 0 ≤ (a6 + d5) / 67108864 ∧ (a6 + d5) / 67108864 ≤ 1 := by omega
  generalize (a6 + d5) / 67108864 = d6 at *
  rw [sm (a7 + d6) (by omega) (by omega)]
  have e7 : 0 ≤ (a7 + d6) / 67108864 ∧ (a7 + d6) / 67108864 ≤ 1 := by omega
  generalize (a7 + d6) / 67108864 = d7 at *
  rw [sm (a8 + d7) (by omega) (by omega)]
  have e8 : 0 ≤ (a8 + d7) / 67108864 ∧ (a8 + d7) / 67108864 ≤ 1 := by omega
  generalize (a8 + d7) / 67108864 = d8 at *
  rw [sm (a9 % 2097152 + d8) (by omega) (by omega)]
  omega

theorem fold_ends (a : Nat → Int) (h : ∀ j, j < 9 → 0 ≤ a j ∧ a j < 67108864) (h9 : 0 ≤ a 9 ∧ a 9 < 18446744073709551616) (hp : decide (rFold a 9 > 2097151) = true) : decide ((rFold (rFold a)) 9 > 2097151) = true → False := by
  intro hd
  have hp := of_decide_eq_true hp
  have hd := of_decide_eq_true hd
  obtain ⟨h1, h2, h3⟩ := fold_small a h h9
  obtain ⟨k1, _, _⟩ := fold_small (rFold a) h2 ⟨h3, by omega⟩
  omega

theorem rLeast_a (x : (Nat → Int)) : awp Try.prog o26 noG 300 (body Try.f85) (ends Try.prog Try.f85 fun v _ => okV (V.ints .u64 10 (rLeast x)) v) ⟨[(V.ints .u64 10 x)] ++ List.replicate 31 V.un, []⟩ := by
  have fin : ∀ (a : Nat → Int) (t6 t7 t8 t9 t10 t11 t12 t13 t14 t15 t16 t17 t18 t19 t20 t21 t22 : V), spineQ Try.prog o26 noG 300 (body Try.f85) (ends Try.prog Try.f85 fun v _ => okV (V.ints .u64 10 (rFin a)) v) (.exit 0) ⟨[(V.ints .u64 10 x), (V.ptr 0 0), (V.ptr 1 0), V.un, (V.ints .u64 10 x), (V.ints .u64 10 (rCarried x)), t6, t7, t8, t9, t10, t11, t12, t13, t14, t15, t16, t17, t18, t19, t20, t21, t22, V.un, V.un, V.un, V.un, V.un, V.un, V.un, V.un, V.un], [(V.ints .u64 10 a), (V.ints .u64 10 (fun _ => 0))]⟩ := by
    intro a t6 t7 t8 t9 t10 t11 t12 t13 t14 t15 t16 t17 t18 t19 t20 t21 t22
    rw [rLeast_x]
    refine mBt (fun h => ?_) (fun h => ?_)
    · simp only [rFin, h, cond_true]; exact okV_refl rfl
    · simp only [rFin, h, cond_false]; exact okV_refl rfl
  have c0 := carried_at x
  have c9 := carried9 x
  rw [rLeast_h, show (300 : Nat) = 297 + 1 + 1 + 1 from rfl, rLeast_s]
  refine mBt (fun h1 => ?_) (fun h1 => ?_)
  · rw [rLeast_s]
    refine mBt (fun h2 => ?_) (fun h2 => ?_)
    · rw [rLeast_s]
      refine mBt (fun h3 => (fold_ends _ c0 c9 h2 h3).elim) (fun h3 => ?_)
      have e : rLeast x = rFin (rFold (rFold (rCarried x))) := by unfold rLeast; rw [h1, show decide (rFold (rCarried x) 9 > 2097151) = true from h2]; rfl
      rw [e]; exact fin _ _ _ _ _ _ _ _ _ _ _ _ _ _ _ _ _ _
    · have e : rLeast x = rFin (rFold (rCarried x)) := by unfold rLeast; rw [h1, show decide (rFold (rCarried x) 9 > 2097151) = false from h2]; rfl
      rw [e]; exact fin _ _ _ _ _ _ _ _ _ _ _ _ _ _ _ _ _ _
  · have e : rLeast x = rFin (rCarried x) := by unfold rLeast; rw [h1]; rfl
    rw [e]; exact fin _ _ _ _ _ _ _ _ _ _ _ _ _ _ _ _ _ _
theorem rLeast_nf (x : Nat → Int) : rLeast (l10 (x 0) (x 1) (x 2) (x 3) (x 4) (x 5) (x 6) (x 7) (x 8) (x 9)) = rLeast x := by
  have e : rCarried (l10 (x 0) (x 1) (x 2) (x 3) (x 4) (x 5) (x 6) (x 7) (x 8) (x 9)) = rCarried x := by kernel_rfl
  unfold rLeast
  rw [e]
def g85 : List V → Option (Bool × V) := fun | [.ints .u64 10 x] => some (true, (V.ints .u64 10 (rLeast (l10 (x 0) (x 1) (x 2) (x 3) (x 4) (x 5) (x 6) (x 7) (x 8) (x 9))))) | _ => none
theorem rLeast_p (x : (Nat → Int)) : (∀ μ μ', V.den μ' (V.ints .u64 10 (rLeast x)) = V.den μ (V.ints .u64 10 (rLeast x))) ∧ ∀ μ w, PureAt Try.prog 85 (([(V.ints .u64 10 x)] : List V).map (V.den μ)).toArray (V.den μ (V.ints .u64 10 (rLeast x))) w :=
  pure_ok (F := o26) (N := 300) (fn := Try.f85) (args := [(V.ints .u64 10 x)]) (r := (V.ints .u64 10 (rLeast x))) (n := 31) hM o26_ok (noG_ok _) Try.func85 (by kernel_rfl) (by kernel_rfl) (by kernel_rfl) (by kernel_rfl) (rLeast_a x) (by kernel_rfl)
theorem g85_ok (vs : List V) (v : V) (h : g85 vs = some (true, v)) : (∀ μ μ', v.den μ' = v.den μ) ∧ ∀ μ w, PureAt Try.prog 85 (vs.map (V.den μ)).toArray (v.den μ) w := by
  unfold g85 at h
  split at h
  · simp only [Option.some.injEq, Prod.mk.injEq, true_and] at h
    subst h
    rw [rLeast_nf]
    exact rLeast_p _
  · simp at h
def o85 : Orc := ext 85 g85 o26
theorem o85_ok : OrcOK Try.prog o85 := ext_ok o26_ok g85_ok

end Go.Proofs.Ytbnclikjbnfodaa

namespace Go.Proofs.Ytbnclikjbnfodaa
open Go.Ev
/- fareboxref05.Add -/
def rAdd (a : (Nat → Int)) (b : (Nat → Int)) : (Nat → Int) := (rLeast (l10 (addI .u64 (a 0) (b 0)) (addI .u64 (a 1) (b 1)) (addI .u64 (a 2) (b 2)) (addI .u64 (a 3) (b 3)) (addI .u64 (a 4) (b 4)) (addI .u64 (a 5) (b 5)) (addI .u64 (a 6) (b 6)) (addI .u64 (a 7) (b 7)) (addI .u64 (a 8) (b 8)) (addI .u64 (a 9) (b 9))))
theorem rAdd_t (a : (Nat → Int)) (b : (Nat → Int)) : awp Try.prog o85 noG 300 (body Try.f30) (ends Try.prog Try.f30 fun v _ => okV (V.ints .u64 10 (rAdd a b)) v) ⟨[(V.ints .u64 10 a), (V.ints .u64 10 b)] ++ List.replicate 19 V.un, []⟩ = ((V.ints .u64 10 (rAdd a b)).den z0 = (V.ints .u64 10 (rAdd a b)).den z0) := by kernel_rfl
theorem rAdd_a (a : (Nat → Int)) (b : (Nat → Int)) : awp Try.prog o85 noG 300 (body Try.f30) (ends Try.prog Try.f30 fun v _ => okV (V.ints .u64 10 (rAdd a b)) v) ⟨[(V.ints .u64 10 a), (V.ints .u64 10 b)] ++ List.replicate 19 V.un, []⟩ := by rw [rAdd_t]
def g30 : List V → Option (Bool × V) := fun | [.ints .u64 10 a, .ints .u64 10 b] => some (true, (V.ints .u64 10 (rAdd a b))) | _ => none
theorem rAdd_p (a : (Nat → Int)) (b : (Nat → Int)) : (∀ μ μ', V.den μ' (V.ints .u64 10 (rAdd a b)) = V.den μ (V.ints .u64 10 (rAdd a b))) ∧ ∀ μ w, PureAt Try.prog 30 (([(V.ints .u64 10 a), (V.ints .u64 10 b)] : List V).map (V.den μ)).toArray (V.den μ (V.ints .u64 10 (rAdd a b))) w :=
  pure_ok (F := o85) (N := 300) (fn := Try.f30) (args := [(V.ints .u64 10 a), (V.ints .u64 10 b)]) (r := (V.ints .u64 10 (rAdd a b))) (n := 19) hM o85_ok (noG_ok _) Try.func30 (by kernel_rfl) (by kernel_rfl) (by kernel_rfl) (by kernel_rfl) (rAdd_a a b) (by kernel_rfl)
theorem g30_ok (vs : List V) (v : V) (h : g30 vs = some (true, v)) : (∀ μ μ', v.den μ' = v.den μ) ∧ ∀ μ w, PureAt Try.prog 30 (vs.map (V.den μ)).toArray (v.den μ) w := by
  unfold g30 at h
  split at h
  · simp only [Option.some.injEq, Prod.mk.injEq, true_and] at h
    subst h
    exact rAdd_p _ _
  · simp at h
def o30 : Orc := ext 30 g30 o85
theorem o30_ok : OrcOK Try.prog o30 := ext_ok o85_ok g30_ok

/- fareboxref05.Neg -/
def rNeg (a : (Nat → Int)) : (Nat → Int) := (rLeast (l10 ((rLess rPrime a) 0) ((rLess rPrime a) 1) ((rLess rPrime a) 2) ((rLess rPrime a) 3) ((rLess rPrime a) 4) ((rLess rPrime a) 5) ((rLess rPrime a) 6) ((rLess rPrime a) 7) ((rLess rPrime a) 8) ((rLess rPrime a) 9)))
theorem rNeg_t (a : (Nat → Int)) : awp Try.prog o30 noG 300 (body Try.f34) (ends Try.prog Try.f34 fun v _ => okV (V.ints .u64 10 (rNeg a)) v) ⟨[(V.ints .u64 10 a)] ++ List.replicate 6 V.un, []⟩ = ((V.ints .u64 10 (rNeg a)).den z0 = (V.ints .u64 10 (rNeg a)).den z0) := by kernel_rfl
theorem rNeg_a (a : (Nat → Int)) : awp Try.prog o30 noG 300 (body Try.f34) (ends Try.prog Try.f34 fun v _ => okV (V.ints .u64 10 (rNeg a)) v) ⟨[(V.ints .u64 10 a)] ++ List.replicate 6 V.un, []⟩ := by rw [rNeg_t]
def g34 : List V → Option (Bool × V) := fun | [.ints .u64 10 a] => some (true, (V.ints .u64 10 (rNeg a))) | _ => none
theorem rNeg_p (a : (Nat → Int)) : (∀ μ μ', V.den μ' (V.ints .u64 10 (rNeg a)) = V.den μ (V.ints .u64 10 (rNeg a))) ∧ ∀ μ w, PureAt Try.prog 34 (([(V.ints .u64 10 a)] : List V).map (V.den μ)).toArray (V.den μ (V.ints .u64 10 (rNeg a))) w :=
  pure_ok (F := o30) (N := 300) (fn := Try.f34) (args := [(V.ints .u64 10 a)]) (r := (V.ints .u64 10 (rNeg a))) (n := 6) hM o30_ok (noG_ok _) Try.func34 (by kernel_rfl) (by kernel_rfl) (by kernel_rfl) (by kernel_rfl) (rNeg_a a) (by kernel_rfl)
theorem g34_ok (vs : List V) (v : V) (h : g34 vs = some (true, v)) : (∀ μ μ', v.den μ' = v.den μ) ∧ ∀ μ w, PureAt Try.prog 34 (vs.map (V.den μ)).toArray (v.den μ) w := by
  unfold g34 at h
  split at h
  · simp only [Option.some.injEq, Prod.mk.injEq, true_and] at h
    subst h
    exact rNeg_p _
  · simp at h
def o34 : Orc := ext 34 g34 o30
theorem o34_ok : OrcOK Try.prog o34 := ext_ok o30_ok g34_ok

/- fareboxref05.Sub -/
def rSub (a : (Nat → Int)) (b : (Nat → Int)) : (Nat → Int) := (rAdd a (rNeg b))
theorem rSub_t (a : (Nat → Int)) (b : (Nat → Int)) : awp Try.prog o34 noG 300 (body Try.f32) (ends Try.prog Try.f32 fun v _ => okV (V.ints .u64 10 (rSub a b)) v) ⟨[(V.ints .u64 10 a), (V.ints .u64 10 b)] ++ List.replicate 7 V.un, []⟩ = ((V.ints .u64 10 (rSub a b)).den z0 = (V.ints .u64 10 (rSub a b)).den z0) := by kernel_rfl
theorem rSub_a (a : (Nat → Int)) (b : (Nat → Int)) : awp Try.prog o34 noG 300 (body Try.f32) (ends Try.prog Try.f32 fun v _ => okV (V.ints .u64 10 (rSub a b)) v) ⟨[(V.ints .u64 10 a), (V.ints .u64 10 b)] ++ List.replicate 7 V.un, []⟩ := by rw [rSub_t]
def g32 : List V → Option (Bool × V) := fun | [.ints .u64 10 a, .ints .u64 10 b] => some (true, (V.ints .u64 10 (rSub a b))) | _ => none
theorem rSub_p (a : (Nat → Int)) (b : (Nat → Int)) : (∀ μ μ', V.den μ' (V.ints .u64 10 (rSub a b)) = V.den μ (V.ints .u64 10 (rSub a b))) ∧ ∀ μ w, PureAt Try.prog 32 (([(V.ints .u64 10 a), (V.ints .u64 10 b)] : List V).map (V.den μ)).toArray (V.den μ (V.ints .u64 10 (rSub a b))) w :=
  pure_ok (F := o34) (N := 300) (fn := Try.f32) (args := [(V.ints .u64 10 a), (V.ints .u64 10 b)]) (r := (V.ints .u64 10 (rSub a b))) (n := 7) hM o34_ok (noG_ok _) Try.func32 (by kernel_rfl) (by kernel_rfl) (by kernel_rfl) (by kernel_rfl) (rSub_a a b) (by kernel_rfl)
theorem g32_ok (vs : List V) (v : V) (h : g32 vs = some (true, v)) : (∀ μ μ', v.den μ' = v.den μ) ∧ ∀ μ w, PureAt Try.prog 32 (vs.map (V.den μ)).toArray (v.den μ) w := by
  unfold g32 at h
  split at h
  · simp only [Option.some.injEq, Prod.mk.injEq, true_and] at h
    subst h
    exact rSub_p _ _
  · simp at h
def o32 : Orc := ext 32 g32 o34
theorem o32_ok : OrcOK Try.prog o32 := ext_ok o34_ok g32_ok
end Go.Proofs.Ytbnclikjbnfodaa

namespace Go.Proofs.Ytbnclikjbnfodaa
open Go.Ev
/- fareboxref05.Mul -/
/-- The sums of the products of digits, in the order of the text. -/
def mulD (a b : Nat → Int) (k : Nat) : Int := (List.range 10).foldl (fun acc i => bif (Nat.ble i k && Nat.ble (k - i) 9) then addI .u64 acc (mulI .u64 (a i) (b (k - i))) else acc) 0
def mulE (a b : Nat → Int) : Nat → Int
  | 0 => mulD a b 0
  | k + 1 => addI .u64 (mulD a b (k + 1)) (shrI .u64 (mulE a b k) 26)
def mulC (a b : Nat → Int) (k : Nat) : Int := bif Nat.beq k 19 then mulE a b k else andI .u64 (mulE a b k) 67108863
def mulLow (a b : Nat → Int) : Nat → Int := fun i => addI .u64 (mulC a b i) (mulI .u64 608 (mulC a b (i + 10)))
def rMul (a b : Nat → Int) : Nat → Int := rLeast (l10 (mulLow a b 0) (mulLow a b 1) (mulLow a b 2) (mulLow a b 3) (mulLow a b 4) (mulLow a b 5) (mulLow a b 6) (mulLow a b 7) (mulLow a b 8) (mulLow a b 9))
theorem rMul_t (a : (Nat → Int)) (b : (Nat → Int)) : awp Try.prog o32 noG 300 (body Try.f44) (ends Try.prog Try.f44 fun v _ => okV (V.ints .u64 10 (rMul a b)) v) ⟨[(V.ints .u64 10 a), (V.ints .u64 10 b)] ++ List.replicate 73 V.un, []⟩ = ((V.ints .u64 10 (rMul a b)).den z0 = (V.ints .u64 10 (rMul a b)).den z0) := by kernel_rfl
theorem rMul_a (a : (Nat → Int)) (b : (Nat → Int)) : awp Try.prog o32 noG 300 (body Try.f44) (ends Try.prog Try.f44 fun v _ => okV (V.ints .u64 10 (rMul a b)) v) ⟨[(V.ints .u64 10 a), (V.ints .u64 10 b)] ++ List.replicate 73 V.un, []⟩ := by rw [rMul_t]
def g44 : List V → Option (Bool × V) := fun | [.ints .u64 10 a, .ints .u64 10 b] => some (true, (V.ints .u64 10 (rMul a b))) | _ => none
theorem rMul_p (a : (Nat → Int)) (b : (Nat → Int)) : (∀ μ μ', V.den μ' (V.ints .u64 10 (rMul a b)) = V.den μ (V.ints .u64 10 (rMul a b))) ∧ ∀ μ w, PureAt Try.prog 44 (([(V.ints .u64 10 a), (V.ints .u64 10 b)] : List V).map (V.den μ)).toArray (V.den μ (V.ints .u64 10 (rMul a b))) w :=
  pure_ok (F := o32) (N := 300) (fn := Try.f44) (args := [(V.ints .u64 10 a), (V.ints .u64 10 b)]) (r := (V.ints .u64 10 (rMul a b))) (n := 73) hM o32_ok (noG_ok _) Try.func44 (by kernel_rfl) (by kernel_rfl) (by kernel_rfl) (by kernel_rfl) (rMul_a a b) (by kernel_rfl)
theorem g44_ok (vs : List V) (v : V) (h : g44 vs = some (true, v)) : (∀ μ μ', v.den μ' = v.den μ) ∧ ∀ μ w, PureAt Try.prog 44 (vs.map (V.den μ)).toArray (v.den μ) w := by
  unfold g44 at h
  split at h
  · simp only [Option.some.injEq, Prod.mk.injEq, true_and] at h
    subst h
    exact rMul_p _ _
  · simp at h
def o44 : Orc := ext 44 g44 o32
theorem o44_ok : OrcOK Try.prog o44 := ext_ok o32_ok g44_ok
end Go.Proofs.Ytbnclikjbnfodaa

namespace Go.Proofs.Ytbnclikjbnfodaa
open Go.Ev
/- fareboxref05.Element -/
/-- A limb's bits, one by one. -/
def elemLimb (a : Nat → Int) (j : Nat) : Int := (List.range 51).foldl (fun acc i => addI .u64 acc (shlI .u64 (andI .u64 (shrI .u64 (a ((51 * j + i) / 26)) (((51 * j + i) % 26 : Nat) : Int)) 1) (i : Int))) 0
def rElement (a : Nat → Int) : Nat → Int := fun j => elemLimb a j
theorem rElement_t (a : (Nat → Int)) : awp Try.prog o44 noG 300 (body Try.f83) (ends Try.prog Try.f83 fun v _ => okV (V.ints .u64 5 (rElement a)) v) ⟨[(V.ints .u64 10 a)] ++ List.replicate 30 V.un, []⟩ = ((V.ints .u64 5 (rElement a)).den z0 = (V.ints .u64 5 (rElement a)).den z0) := by kernel_rfl
theorem rElement_a (a : (Nat → Int)) : awp Try.prog o44 noG 300 (body Try.f83) (ends Try.prog Try.f83 fun v _ => okV (V.ints .u64 5 (rElement a)) v) ⟨[(V.ints .u64 10 a)] ++ List.replicate 30 V.un, []⟩ := by rw [rElement_t]
def g83 : List V → Option (Bool × V) := fun | [.ints .u64 10 a] => some (true, (V.ints .u64 5 (rElement a))) | _ => none
theorem rElement_p (a : (Nat → Int)) : (∀ μ μ', V.den μ' (V.ints .u64 5 (rElement a)) = V.den μ (V.ints .u64 5 (rElement a))) ∧ ∀ μ w, PureAt Try.prog 83 (([(V.ints .u64 10 a)] : List V).map (V.den μ)).toArray (V.den μ (V.ints .u64 5 (rElement a))) w :=
  pure_ok (F := o44) (N := 300) (fn := Try.f83) (args := [(V.ints .u64 10 a)]) (r := (V.ints .u64 5 (rElement a))) (n := 30) hM o44_ok (noG_ok _) Try.func83 (by kernel_rfl) (by kernel_rfl) (by kernel_rfl) (by kernel_rfl) (rElement_a a) (by kernel_rfl)
theorem g83_ok (vs : List V) (v : V) (h : g83 vs = some (true, v)) : (∀ μ μ', v.den μ' = v.den μ) ∧ ∀ μ w, PureAt Try.prog 83 (vs.map (V.den μ)).toArray (v.den μ) w := by
  unfold g83 at h
  split at h
  · simp only [Option.some.injEq, Prod.mk.injEq, true_and] at h
    subst h
    exact rElement_p _
  · simp at h
def o83 : Orc := ext 83 g83 o44
theorem o83_ok : OrcOK Try.prog o83 := ext_ok o44_ok g83_ok
end Go.Proofs.Ytbnclikjbnfodaa

namespace Go.Proofs.Ytbnclikjbnfodaa
open Go.Ev
/- fareboxref05.Of -/
def rOf (x : (Nat → Int)) : (Nat → Int) := (rAdd (rMul (rAdd (rMul (rAdd (rMul (rAdd (rMul (rSmall (x 4)) (rSmall 2251799813685248)) (rSmall (x 3))) (rSmall 2251799813685248)) (rSmall (x 2))) (rSmall 2251799813685248)) (rSmall (x 1))) (rSmall 2251799813685248)) (rSmall (x 0)))
theorem rOf_t (x : (Nat → Int)) : awp Try.prog o83 noG 300 (body Try.f21) (ends Try.prog Try.f21 fun v _ => okV (V.ints .u64 10 (rOf x)) v) ⟨[(V.ints .u64 5 x)] ++ List.replicate 22 V.un, []⟩ = ((V.ints .u64 10 (rOf x)).den z0 = (V.ints .u64 10 (rOf x)).den z0) := by kernel_rfl
theorem rOf_a (x : (Nat → Int)) : awp Try.prog o83 noG 300 (body Try.f21) (ends Try.prog Try.f21 fun v _ => okV (V.ints .u64 10 (rOf x)) v) ⟨[(V.ints .u64 5 x)] ++ List.replicate 22 V.un, []⟩ := by rw [rOf_t]
def g21 : List V → Option (Bool × V) := fun | [.ints .u64 5 x] => some (true, (V.ints .u64 10 (rOf x))) | _ => none
theorem rOf_p (x : (Nat → Int)) : (∀ μ μ', V.den μ' (V.ints .u64 10 (rOf x)) = V.den μ (V.ints .u64 10 (rOf x))) ∧ ∀ μ w, PureAt Try.prog 21 (([(V.ints .u64 5 x)] : List V).map (V.den μ)).toArray (V.den μ (V.ints .u64 10 (rOf x))) w :=
  pure_ok (F := o83) (N := 300) (fn := Try.f21) (args := [(V.ints .u64 5 x)]) (r := (V.ints .u64 10 (rOf x))) (n := 22) hM o83_ok (noG_ok _) Try.func21 (by kernel_rfl) (by kernel_rfl) (by kernel_rfl) (by kernel_rfl) (rOf_a x) (by kernel_rfl)
theorem g21_ok (vs : List V) (v : V) (h : g21 vs = some (true, v)) : (∀ μ μ', v.den μ' = v.den μ) ∧ ∀ μ w, PureAt Try.prog 21 (vs.map (V.den μ)).toArray (v.den μ) w := by
  unfold g21 at h
  split at h
  · simp only [Option.some.injEq, Prod.mk.injEq, true_and] at h
    subst h
    exact rOf_p _
  · simp at h
def o21 : Orc := ext 21 g21 o83
theorem o21_ok : OrcOK Try.prog o21 := ext_ok o83_ok g21_ok

/- fareboxlaw05.is -/
def isE (x : (Nat → Int)) (a : (Nat → Int)) : Bool := (eqN 5 x (rElement a))
theorem isE_t (x : (Nat → Int)) (a : (Nat → Int)) : awp Try.prog o21 noG 300 (body Try.f27) (ends Try.prog Try.f27 fun v _ => okV (V.bool (isE x a)) v) ⟨[(V.ints .u64 5 x), (V.ints .u64 10 a)] ++ List.replicate 7 V.un, []⟩ = ((V.bool (isE x a)).den z0 = (V.bool (isE x a)).den z0) := by kernel_rfl
theorem isE_a (x : (Nat → Int)) (a : (Nat → Int)) : awp Try.prog o21 noG 300 (body Try.f27) (ends Try.prog Try.f27 fun v _ => okV (V.bool (isE x a)) v) ⟨[(V.ints .u64 5 x), (V.ints .u64 10 a)] ++ List.replicate 7 V.un, []⟩ := by rw [isE_t]
def g27 : List V → Option (Bool × V) := fun | [.ints .u64 5 x, .ints .u64 10 a] => some (true, (V.bool (isE x a))) | _ => none
theorem isE_p (x : (Nat → Int)) (a : (Nat → Int)) : (∀ μ μ', V.den μ' (V.bool (isE x a)) = V.den μ (V.bool (isE x a))) ∧ ∀ μ w, PureAt Try.prog 27 (([(V.ints .u64 5 x), (V.ints .u64 10 a)] : List V).map (V.den μ)).toArray (V.den μ (V.bool (isE x a))) w :=
  pure_ok (F := o21) (N := 300) (fn := Try.f27) (args := [(V.ints .u64 5 x), (V.ints .u64 10 a)]) (r := (V.bool (isE x a))) (n := 7) hM o21_ok (noG_ok _) Try.func27 (by kernel_rfl) (by kernel_rfl) (by kernel_rfl) (by kernel_rfl) (isE_a x a) (by kernel_rfl)
theorem g27_ok (vs : List V) (v : V) (h : g27 vs = some (true, v)) : (∀ μ μ', v.den μ' = v.den μ) ∧ ∀ μ w, PureAt Try.prog 27 (vs.map (V.den μ)).toArray (v.den μ) w := by
  unfold g27 at h
  split at h
  · simp only [Option.some.injEq, Prod.mk.injEq, true_and] at h
    subst h
    exact isE_p _ _
  · simp at h
def o27 : Orc := ext 27 g27 o21
theorem o27_ok : OrcOK Try.prog o27 := ext_ok o21_ok g27_ok

/- fareboxlaw05.FieldTells -/
def lawTells (x : (Nat → Int)) (y : (Nat → Int)) (c : Bool) : Bool := (cond (!((equalF x y) == (eqN 10 (rOf x) (rOf y)))) false (cond (!((isZeroF x) == (rIsZero (rOf x)))) false (cond (!((isOddF x) == (rIsOdd (rOf x)))) false (cond c (isE (selectF true x y) (rOf x)) (isE (selectF false x y) (rOf y))))))
theorem lawTells_t (x : (Nat → Int)) (y : (Nat → Int)) (c : Bool) : awp Try.prog o27 noG 300 (body Try.f3) (ends Try.prog Try.f3 fun v _ => okV (V.bool (lawTells x y c)) v) ⟨[(V.ints .u64 5 x), (V.ints .u64 5 y), (V.bool c)] ++ List.replicate 42 V.un, []⟩ = (mB (!((equalF x y) == (eqN 10 (rOf x) (rOf y)))) ((V.bool false).den z0 = (V.bool (lawTells x y c)).den z0) (mB (!((isZeroF x) == (rIsZero (rOf x)))) ((V.bool false).den z0 = (V.bool (lawTells x y c)).den z0) (mB (!((isOddF x) == (rIsOdd (rOf x)))) ((V.bool false).den z0 = (V.bool (lawTells x y c)).den z0) (mB c ((V.bool (isE (selectF true x y) (rOf x))).den z0 = (V.bool (lawTells x y c)).den z0) ((V.bool (isE (selectF false x y) (rOf y))).den z0 = (V.bool (lawTells x y c)).den z0))))) := by kernel_rfl
theorem lawTells_a (x : (Nat → Int)) (y : (Nat → Int)) (c : Bool) : awp Try.prog o27 noG 300 (body Try.f3) (ends Try.prog Try.f3 fun v _ => okV (V.bool (lawTells x y c)) v) ⟨[(V.ints .u64 5 x), (V.ints .u64 5 y), (V.bool c)] ++ List.replicate 42 V.un, []⟩ := by
  rw [lawTells_t]
  refine mBt (fun h1 => ?_) (fun h1 => ?_)
  · simp only [lawTells, h1, cond_true]
  · refine mBt (fun h2 => ?_) (fun h2 => ?_)
    · simp only [lawTells, h1, h2, cond_true, cond_false]
    · refine mBt (fun h3 => ?_) (fun h3 => ?_)
      · simp only [lawTells, h1, h2, h3, cond_true, cond_false]
      · refine mBt (fun h4 => ?_) (fun h4 => ?_)
        · simp only [lawTells, h1, h2, h3, h4, cond_true, cond_false]
        · simp only [lawTells, h1, h2, h3, h4, cond_false]
def g3 : List V → Option (Bool × V) := fun | [.ints .u64 5 x, .ints .u64 5 y, .bool c] => some (true, (V.bool (lawTells x y c))) | _ => none
theorem lawTells_p (x : (Nat → Int)) (y : (Nat → Int)) (c : Bool) : (∀ μ μ', V.den μ' (V.bool (lawTells x y c)) = V.den μ (V.bool (lawTells x y c))) ∧ ∀ μ w, PureAt Try.prog 3 (([(V.ints .u64 5 x), (V.ints .u64 5 y), (V.bool c)] : List V).map (V.den μ)).toArray (V.den μ (V.bool (lawTells x y c))) w :=
  pure_ok (F := o27) (N := 300) (fn := Try.f3) (args := [(V.ints .u64 5 x), (V.ints .u64 5 y), (V.bool c)]) (r := (V.bool (lawTells x y c))) (n := 42) hM o27_ok (noG_ok _) Try.func3 (by kernel_rfl) (by kernel_rfl) (by kernel_rfl) (by kernel_rfl) (lawTells_a x y c) (by kernel_rfl)
theorem g3_ok (vs : List V) (v : V) (h : g3 vs = some (true, v)) : (∀ μ μ', v.den μ' = v.den μ) ∧ ∀ μ w, PureAt Try.prog 3 (vs.map (V.den μ)).toArray (v.den μ) w := by
  unfold g3 at h
  split at h
  · simp only [Option.some.injEq, Prod.mk.injEq, true_and] at h
    subst h
    exact lawTells_p _ _ _
  · simp at h
def o3 : Orc := ext 3 g3 o27
theorem o3_ok : OrcOK Try.prog o3 := ext_ok o27_ok g3_ok
end Go.Proofs.Ytbnclikjbnfodaa

namespace Go.Proofs.Ytbnclikjbnfodaa
open Go.Ev
/- math/bits.Mul64 -/
def mul64 (x : Int) (y : Int) : (Int × Int) := ((addI .u64 (addI .u64 (mulI .u64 (shrI .u64 x 32) (shrI .u64 y 32)) (shrI .u64 (addI .u64 (mulI .u64 (shrI .u64 x 32) (andI .u64 y 4294967295)) (shrI .u64 (mulI .u64 (andI .u64 x 4294967295) (andI .u64 y 4294967295)) 32)) 32)) (shrI .u64 (addI .u64 (andI .u64 (addI .u64 (mulI .u64 (shrI .u64 x 32) (andI .u64 y 4294967295)) (shrI .u64 (mulI .u64 (andI .u64 x 4294967295) (andI .u64 y 4294967295)) 32)) 4294967295) (mulI .u64 (andI .u64 x 4294967295) (shrI .u64 y 32))) 32)), (mulI .u64 x y))
theorem mul64_t (x : Int) (y : Int) : awp Try.prog o27 noG 300 (body Try.f119) (ends Try.prog Try.f119 fun v _ => okV (V.tup [(V.int .u64 (mul64 x y).1), (V.int .u64 (mul64 x y).2)]) v) ⟨[(V.int .u64 x), (V.int .u64 y)] ++ List.replicate 49 V.un, []⟩ = ((V.tup [(V.int .u64 (mul64 x y).1), (V.int .u64 (mul64 x y).2)]).den z0 = (V.tup [(V.int .u64 (mul64 x y).1), (V.int .u64 (mul64 x y).2)]).den z0) := by kernel_rfl
theorem mul64_a (x : Int) (y : Int) : awp Try.prog o27 noG 300 (body Try.f119) (ends Try.prog Try.f119 fun v _ => okV (V.tup [(V.int .u64 (mul64 x y).1), (V.int .u64 (mul64 x y).2)]) v) ⟨[(V.int .u64 x), (V.int .u64 y)] ++ List.replicate 49 V.un, []⟩ := by rw [mul64_t]
def g119 : List V → Option (Bool × V) := fun | [.int .u64 x, .int .u64 y] => some (true, (V.tup [(V.int .u64 (mul64 x y).1), (V.int .u64 (mul64 x y).2)])) | _ => none
theorem mul64_p (x : Int) (y : Int) : (∀ μ μ', V.den μ' (V.tup [(V.int .u64 (mul64 x y).1), (V.int .u64 (mul64 x y).2)]) = V.den μ (V.tup [(V.int .u64 (mul64 x y).1), (V.int .u64 (mul64 x y).2)])) ∧ ∀ μ w, PureAt Try.prog 119 (([(V.int .u64 x), (V.int .u64 y)] : List V).map (V.den μ)).toArray (V.den μ (V.tup [(V.int .u64 (mul64 x y).1), (V.int .u64 (mul64 x y).2)])) w :=
  pure_ok (F := o27) (N := 300) (fn := Try.f119) (args := [(V.int .u64 x), (V.int .u64 y)]) (r := (V.tup [(V.int .u64 (mul64 x y).1), (V.int .u64 (mul64 x y).2)])) (n := 49) hM o27_ok (noG_ok _) Try.func119 (by kernel_rfl) (by kernel_rfl) (by kernel_rfl) (by kernel_rfl) (mul64_a x y) (by kernel_rfl)
theorem g119_ok (vs : List V) (v : V) (h : g119 vs = some (true, v)) : (∀ μ μ', v.den μ' = v.den μ) ∧ ∀ μ w, PureAt Try.prog 119 (vs.map (V.den μ)).toArray (v.den μ) w := by
  unfold g119 at h
  split at h
  · simp only [Option.some.injEq, Prod.mk.injEq, true_and] at h
    subst h
    exact mul64_p _ _
  · simp at h
def o119 : Orc := ext 119 g119 o27
theorem o119_ok : OrcOK Try.prog o119 := ext_ok o27_ok g119_ok

/- bits.Add64: the model's own entry -/
def aS (x y c : Int) : Int := (x + y + c) % 18446744073709551616
def aC (x y c : Int) : Int := (x + y + c) / 18446744073709551616
/-- The entry takes numbers that are not below 0, and a carry of 0 or 1. -/
def aOK (x y c : Int) : Bool := decide (0 ≤ x) && decide (0 ≤ y) && decide (0 ≤ c) && decide (c ≤ 1)
def g89 : List V → Option (Bool × V) := fun | [.int .u64 x, .int .u64 y, .int .u64 c] => some (aOK x y c, .tup [.int .u64 (aS x y c), .int .u64 (aC x y c)]) | _ => none
theorem g89_ok (vs : List V) (v : V) (h : g89 vs = some (true, v)) : (∀ μ μ', v.den μ' = v.den μ) ∧ ∀ μ w, PureAt Try.prog 89 (vs.map (V.den μ)).toArray (v.den μ) w := by
  unfold g89 at h
  split at h
  · rename_i x y c
    simp only [Option.some.injEq, Prod.mk.injEq] at h
    obtain ⟨h, rfl⟩ := h
    simp only [aOK, Bool.and_eq_true, decide_eq_true_eq] at h
    obtain ⟨⟨⟨h1, h2⟩, h3⟩, h4⟩ := h
    refine ⟨fun μ μ' => by simp [V.den, V.dens], fun μ w => .inl ?_⟩
    rw [run_callFunc_extern Try.func89 (by kernel_rfl) (by kernel_rfl) (by kernel_rfl) (e := add64Entry) (by kernel_rfl)]
    simp only [List.map_cons, List.map_nil, V.den, V.dens]
    rw [run_add64 x y c h1 h2 h3 h4]
    rfl
  · simp at h
def o89 : Orc := ext 89 g89 o119
theorem o89_ok : OrcOK Try.prog o89 := ext_ok o119_ok g89_ok
def l5 (a0 a1 a2 a3 a4 : Int) : Nat → Int := L [a0, a1, a2, a3, a4]
theorem reduceF_nf (x : Nat → Int) : reduceF (l5 (x 0) (x 1) (x 2) (x 3) (x 4)) = reduceF x := by
  have e : carryF (l5 (x 0) (x 1) (x 2) (x 3) (x 4)) = carryF x := by kernel_rfl
  unfold reduceF
  rw [e]
def g82n : List V → Option (Bool × V) := fun | [.ints .u64 5 x] => some (true, (V.ints .u64 5 (reduceF (l5 (x 0) (x 1) (x 2) (x 3) (x 4))))) | _ => none
theorem g82n_ok (vs : List V) (v : V) (h : g82n vs = some (true, v)) : (∀ μ μ', v.den μ' = v.den μ) ∧ ∀ μ w, PureAt Try.prog 82 (vs.map (V.den μ)).toArray (v.den μ) w := by
  unfold g82n at h
  split at h
  · simp only [Option.some.injEq, Prod.mk.injEq, true_and] at h
    subst h
    rw [reduceF_nf]
    exact reduceF_p _
  · simp at h
def o82n : Orc := ext 82 g82n o89
theorem o82n_ok : OrcOK Try.prog o82n := ext_ok o89_ok g82n_ok
/-- (*wide).add is gone through in place. -/
def G88 : GOrc := inl Try.prog o82n 300 88 Try.f88 noG
theorem G88_ok : GOrcOK Try.prog G88 := inl_ok hM o82n_ok (noG_ok _) Try.func88 (by kernel_rfl) (by kernel_rfl)
end Go.Proofs.Ytbnclikjbnfodaa

namespace Go.Proofs.Ytbnclikjbnfodaa
open Go.Ev
/-- A sum of products, one product more: the higher and the lower half. -/
def wadd (w : Int × Int) (a b : Int) : Int × Int := (aS w.1 (mul64 a b).1 (aC w.2 (mul64 a b).2 0), aS w.2 (mul64 a b).2 0)
/-- What a limb of the second comes to at a limb of the product. -/
def mB2 (b : Nat → Int) (k i : Nat) : Int := bif Nat.ble i k then b (k - i) else mulI .u64 19 (b (k + 5 - i))
/-- The sum at limb k, behind n limbs of the first. -/
def mW (a b : Nat → Int) (k : Nat) : Nat → Int × Int
  | 0 => (0, 0)
  | n + 1 => wadd (mW a b k n) (a n) (mB2 b k n)
/-- What goes over into limb k. -/
def mO (a b : Nat → Int) : Nat → Int
  | 0 => 0
  | k + 1 => orI .u64 (shlI .u64 (addI .u64 (mW a b k 5).1 (aC (mW a b k 5).2 (mO a b k) 0)) 13) (shrI .u64 (aS (mW a b k 5).2 (mO a b k) 0) 51)
def mL (a b : Nat → Int) (k : Nat) : Int := andI .u64 (aS (mW a b k 5).2 (mO a b k) 0) 2251799813685247
def mT (a b : Nat → Int) : Int × Int := wadd (0, 0) (mO a b 5) 19
def mP (a b : Nat → Int) : Nat → Int := reduceF (l5 (andI .u64 (aS (mT a b).2 (mL a b 0) 0) 2251799813685247) (addI .u64 (mL a b 1) (orI .u64 (shlI .u64 (addI .u64 (mT a b).1 (aC (mT a b).2 (mL a b 0) 0)) 13) (shrI .u64 (aS (mT a b).2 (mL a b 0) 0) 51))) (mL a b 2) (mL a b 3) (mL a b 4))
def mulF (x y : Nat → Int) : Nat → Int := mP (carryF x) (carryF y)
theorem and_nn (a b : Int) : 0 ≤ andI .u64 a b := by unfold andI bits2; rw [wrap_u64]; exact Int.emod_nonneg _ (by omega)
theorem or_nn (a b : Int) : 0 ≤ orI .u64 a b := by unfold orI bits2; rw [wrap_u64]; exact Int.emod_nonneg _ (by omega)
def WOK (w : Int × Int) : Prop := 0 ≤ w.1 ∧ 0 ≤ w.2 ∧ w.2 < 18446744073709551616
theorem w0_ok : WOK (0, 0) := ⟨by omega, by omega, by omega⟩
theorem mul64_ok (a b : Int) : WOK (mul64 a b) := by
  refine ⟨?_, ?_, ?_⟩
  · show 0 ≤ addI .u64 _ _
    rw [addU]; exact Int.emod_nonneg _ (by omega)
  · show 0 ≤ mulI .u64 _ _
    rw [mulU]; exact Int.emod_nonneg _ (by omega)
  · show mulI .u64 _ _ < _
    rw [mulU]; exact Int.emod_lt_of_pos _ (by omega)
theorem wadd_ok (w : Int × Int) {a b : Int} : WOK (wadd w a b) := by
  unfold WOK wadd aS
  dsimp only
  refine ⟨?_, ?_, ?_⟩ <;> omega
theorem mW_ok (a b : Nat → Int) (k n : Nat) : WOK (mW a b k n) := by
  cases n with
  | zero => exact w0_ok
  | succ n => exact wadd_ok _
theorem mO_nn (a b : Nat → Int) (k : Nat) : 0 ≤ mO a b k := by
  cases k with
  | zero => exact Int.le_refl _
  | succ k => exact or_nn _ _
theorem ook {x y : Int} (hx : 0 ≤ x) (hy : 0 ≤ y) : aOK x y 0 = true := by unfold aOK; simp; exact ⟨hx, hy⟩
theorem wok1 {w : Int × Int} {a b : Int} (h : WOK w) : aOK w.2 (mul64 a b).2 0 = true := ook h.2.1 (mul64_ok a b).2.1
theorem wok2 {w : Int × Int} {a b : Int} (h : WOK w) : aOK w.1 (mul64 a b).1 (aC w.2 (mul64 a b).2 0) = true := by
  obtain ⟨h1, h2, h3⟩ := h
  obtain ⟨m1, m2, m3⟩ := mul64_ok a b
  unfold aOK aC
  simp only [Bool.and_eq_true, decide_eq_true_eq]
  omega
attribute [local irreducible] mul64
theorem mulF_t (x y : Nat → Int) : awp Try.prog o82n G88 300 (body Try.f43) (ends Try.prog Try.f43 fun v _ => okV (V.ints .u64 5 (mulF x y)) v) ⟨[(V.ints .u64 5 x), (V.ints .u64 5 y)] ++ List.replicate 105 V.un, []⟩ = (gB (aOK (mW (carryF x) (carryF y) 0 0).2 (mul64 (carryF x 0) (mB2 (carryF y) 0 0)).2 0) (gB (aOK (mW (carryF x) (carryF y) 0 0).1 (mul64 (carryF x 0) (mB2 (carryF y) 0 0)).1 (aC (mW (carryF x) (carryF y) 0 0).2 (mul64 (carryF x 0) (mB2 (carryF y) 0 0)).2 0)) (gB (aOK (mW (carryF x) (carryF y) 1 0).2 (mul64 (carryF x 0) (mB2 (carryF y) 1 0)).2 0) (gB (aOK (mW (carryF x) (carryF y) 1 0).1 (mul64 (carryF x 0) (mB2 (carryF y) 1 0)).1 (aC (mW (carryF x) (carryF y) 1 0).2 (mul64 (carryF x 0) (mB2 (carryF y) 1 0)).2 0)) (gB (aOK (mW (carryF x) (carryF y) 2 0).2 (mul64 (carryF x 0) (mB2 (carryF y) 2 0)).2 0) (gB (aOK (mW (carryF x) (carryF y) 2 0).1 (mul64 (carryF x 0) (mB2 (carryF y) 2 0)).1 (aC (mW (carryF x) (carryF y) 2 0).2 (mul64 (carryF x 0) (mB2 (carryF y) 2 0)).2 0)) (gB (aOK (mW (carryF x) (carryF y) 3 0).2 (mul64 (carryF x 0) (mB2 (carryF y) 3 0)).2 0) (gB (aOK (mW (carryF x) (carryF y) 3 0).1 (mul64 (carryF x 0) (mB2 (carryF y) 3 0)).1 (aC (mW (carryF x) (carryF y) 3 0).2 (mul64 (carryF x 0) (mB2 (carryF y) 3 0)).2 0)) (gB (aOK (mW (carryF x) (carryF y) 4 0).2 (mul64 (carryF x 0) (mB2 (carryF y) 4 0)).2 0) (gB (aOK (mW (carryF x) (carryF y) 4 0).1 (mul64 (carryF x 0) (mB2 (carryF y) 4 0)).1 (aC (mW (carryF x) (carryF y) 4 0).2 (mul64 (carryF x 0) (mB2 (carryF y) 4 0)).2 0)) (gB (aOK (mW (carryF x) (carryF y) 1 1).2 (mul64 (carryF x 1) (mB2 (carryF y) 1 1)).2 0) (gB (aOK (mW (carryF x) (carryF y) 1 1).1 (mul64 (carryF x 1) (mB2 (carryF y) 1 1)).1 (aC (mW (carryF x) (carryF y) 1 1).2 (mul64 (carryF x 1) (mB2 (carryF y) 1 1)).2 0)) (gB (aOK (mW (carryF x) (carryF y) 2 1).2 (mul64 (carryF x 1) (mB2 (carryF y) 2 1)).2 0) (gB (aOK (mW (carryF x) (carryF y) 2 1).1 (mul64 (carryF x 1) (mB2 (carryF y) 2 1)).1 (aC (mW (carryF x) (carryF y) 2 1).2 (mul64 (carryF x 1) (mB2 (carryF y) 2 1)).2 0)) (gB (aOK (mW (carryF x) (carryF y) 3 1).2 (mul64 (carryF x 1) (mB2 (carryF y) 3 1)).2 0) (gB (aOK (mW (carryF x) (carryF y) 3 1).1 (mul64 (carryF x 1) (mB2 (carryF y) 3 1)).1 (aC (mW (carryF x) (carryF y) 3 1).2 (mul64 (carryF x 1) (mB2 (carryF y) 3 1)).2 0)) (gB (aOK (mW (carryF x) (carryF y) 4 1).2 (mul64 (carryF x 1) (mB2 (carryF y) 4 1)).2 0) (gB (aOK (mW (carryF x) (carryF y) 4 1).1 (mul64 (carryF x 1) (mB2 (carryF y) 4 1)).1 (aC (mW (carryF x) (carryF y) 4 1).2 (mul64 (carryF x 1) (mB2 (carryF y) 4 1)).2 0)) (gB (aOK (mW (carryF x) (carryF y) 0 1).2 (mul64 (carryF x 1) (mB2 (carryF y) 0 1)).2 0) (gB (aOK (mW (carryF x) (carryF y) 0 1).1 (mul64 (carryF x 1) (mB2 (carryF y) 0 1)).1 (aC (mW (carryF x) (carryF y) 0 1).2 (mul64 (carryF x 1) (mB2 (carryF y) 0 1)).2 0)) (gB (aOK (mW (carryF x) (carryF y) 2 2).2 (mul64 (carryF x 2) (mB2 (carryF y) 2 2)).2 0) (gB (aOK (mW (carryF x) (carryF y) 2 2).1 (mul64 (carryF x 2) (mB2 (carryF y) 2 2)).1 (aC (mW (carryF x) (carryF y) 2 2).2 (mul64 (carryF x 2) (mB2 (carryF y) 2 2)).2 0)) (gB (aOK (mW (carryF x) (carryF y) 3 2).2 (mul64 (carryF x 2) (mB2 (carryF y) 3 2)).2 0) (gB (aOK (mW (carryF x) (carryF y) 3 2).1 (mul64 (carryF x 2) (mB2 (carryF y) 3 2)).1 (aC (mW (carryF x) (carryF y) 3 2).2 (mul64 (carryF x 2) (mB2 (carryF y) 3 2)).2 0)) (gB (aOK (mW (carryF x) (carryF y) 4 2).2 (mul64 (carryF x 2) (mB2 (carryF y) 4 2)).2 0) (gB (aOK (mW (carryF x) (carryF y) 4 2).1 (mul64 (carryF x 2) (mB2 (carryF y) 4 2)).1 (aC (mW (carryF x) (carryF y) 4 2).2 (mul64 (carryF x 2) (mB2 (carryF y) 4 2)).2 0)) (gB (aOK (mW (carryF x) (carryF y) 0 2).2 (mul64 (carryF x 2) (mB2 (carryF y) 0 2)).2 0) (gB (aOK (mW (carryF x) (carryF y) 0 2).1 (mul64 (carryF x 2) (mB2 (carryF y) 0 2)).1 (aC (mW (carryF x) (carryF y) 0 2).2 (mul64 (carryF x 2) (mB2 (carryF y) 0 2)).2 0)) (gB (aOK (mW (carryF x) (carryF y) 1 2).2 (mul64 (carryF x 2) (mB2 (carryF y) 1 2)).2 0) (gB (aOK (mW (carryF x) (carryF y) 1 2).1 (mul64 (carryF x 2) (mB2 (carryF y) 1 2)).1 (aC (mW (carryF x) (carryF y) 1 2).2 (mul64 (carryF x 2) (mB2 (carryF y) 1 2)).2 0)) (gB (aOK (mW (carryF x) (carryF y) 3 3).2 (mul64 (carryF x 3) (mB2 (carryF y) 3 3)).2 0) (gB (aOK (mW (carryF x) (carryF y) 3 3).1 (mul64 (carryF x 3) (mB2 (carryF y) 3 3)).1 (aC (mW (carryF x) (carryF y) 3 3).2 (mul64 (carryF x 3) (mB2 (carryF y) 3 3)).2 0)) (gB (aOK (mW (carryF x) (carryF y) 4 3).2 (mul64 (carryF x 3) (mB2 (carryF y) 4 3)).2 0) (gB (aOK (mW (carryF x) (carryF y) 4 3).1 (mul64 (carryF x 3) (mB2 (carryF y) 4 3)).1 (aC (mW (carryF x) (carryF y) 4 3).2 (mul64 (carryF x 3) (mB2 (carryF y) 4 3)).2 0)) (gB (aOK (mW (carryF x) (carryF y) 0 3).2 (mul64 (carryF x 3) (mB2 (carryF y) 0 3)).2 0) (gB (aOK (mW (carryF x) (carryF y) 0 3).1 (mul64 (carryF x 3) (mB2 (carryF y) 0 3)).1 (aC (mW (carryF x) (carryF y) 0 3).2 (mul64 (carryF x 3) (mB2 (carryF y) 0 3)).2 0)) (gB (aOK (mW (carryF x) (carryF y) 1 3).2 (mul64 (carryF x 3) (mB2 (carryF y) 1 3)).2 0) (gB (aOK (mW (carryF x) (carryF y) 1 3).1 (mul64 (carryF x 3) (mB2 (carryF y) 1 3)).1 (aC (mW (carryF x) (carryF y) 1 3).2 (mul64 (carryF x 3) (mB2 (carryF y) 1 3)).2 0)) (gB (aOK (mW (carryF x) (carryF y) 2 3).2 (mul64 (carryF x 3) (mB2 (carryF y) 2 3)).2 0) (gB (aOK (mW (carryF x) (carryF y) 2 3).1 (mul64 (carryF x 3) (mB2 (carryF y) 2 3)).1 (aC (mW (carryF x) (carryF y) 2 3).2 (mul64 (carryF x 3) (mB2 (carryF y) 2 3)).2 0)) (gB (aOK (mW (carryF x) (carryF y) 4 4).2 (mul64 (carryF x 4) (mB2 (carryF y) 4 4)).2 0) (gB (aOK (mW (carryF x) (carryF y) 4 4).1 (mul64 (carryF x 4) (mB2 (carryF y) 4 4)).1 (aC (mW (carryF x) (carryF y) 4 4).2 (mul64 (carryF x 4) (mB2 (carryF y) 4 4)).2 0)) (gB (aOK (mW (carryF x) (carryF y) 0 4).2 (mul64 (carryF x 4) (mB2 (carryF y) 0 4)).2 0) (gB (aOK (mW (carryF x) (carryF y) 0 4).1 (mul64 (carryF x 4) (mB2 (carryF y) 0 4)).1 (aC (mW (carryF x) (carryF y) 0 4).2 (mul64 (carryF x 4) (mB2 (carryF y) 0 4)).2 0)) (gB (aOK (mW (carryF x) (carryF y) 1 4).2 (mul64 (carryF x 4) (mB2 (carryF y) 1 4)).2 0) (gB (aOK (mW (carryF x) (carryF y) 1 4).1 (mul64 (carryF x 4) (mB2 (carryF y) 1 4)).1 (aC (mW (carryF x) (carryF y) 1 4).2 (mul64 (carryF x 4) (mB2 (carryF y) 1 4)).2 0)) (gB (aOK (mW (carryF x) (carryF y) 2 4).2 (mul64 (carryF x 4) (mB2 (carryF y) 2 4)).2 0) (gB (aOK (mW (carryF x) (carryF y) 2 4).1 (mul64 (carryF x 4) (mB2 (carryF y) 2 4)).1 (aC (mW (carryF x) (carryF y) 2 4).2 (mul64 (carryF x 4) (mB2 (carryF y) 2 4)).2 0)) (gB (aOK (mW (carryF x) (carryF y) 3 4).2 (mul64 (carryF x 4) (mB2 (carryF y) 3 4)).2 0) (gB (aOK (mW (carryF x) (carryF y) 3 4).1 (mul64 (carryF x 4) (mB2 (carryF y) 3 4)).1 (aC (mW (carryF x) (carryF y) 3 4).2 (mul64 (carryF x 4) (mB2 (carryF y) 3 4)).2 0)) (gB (aOK (mW (carryF x) (carryF y) 0 5).2 (mO (carryF x) (carryF y) 0) 0) (gB (aOK (mW (carryF x) (carryF y) 1 5).2 (mO (carryF x) (carryF y) 1) 0) (gB (aOK (mW (carryF x) (carryF y) 2 5).2 (mO (carryF x) (carryF y) 2) 0) (gB (aOK (mW (carryF x) (carryF y) 3 5).2 (mO (carryF x) (carryF y) 3) 0) (gB (aOK (mW (carryF x) (carryF y) 4 5).2 (mO (carryF x) (carryF y) 4) 0) (gB (aOK ((0, 0) : Int × Int).2 (mul64 (mO (carryF x) (carryF y) 5) 19).2 0) (gB (aOK ((0, 0) : Int × Int).1 (mul64 (mO (carryF x) (carryF y) 5) 19).1 (aC ((0, 0) : Int × Int).2 (mul64 (mO (carryF x) (carryF y) 5) 19).2 0)) (gB (aOK (mT (carryF x) (carryF y)).2 (mL (carryF x) (carryF y) 0) 0) ((V.ints .u64 5 (mulF x y)).den z0 = (V.ints .u64 5 (mulF x y)).den z0))))))))))))))))))))))))))))))))))))))))))))))))))))))))))) := by kernel_rfl
theorem mulF_a (x y : Nat → Int) : awp Try.prog o82n G88 300 (body Try.f43) (ends Try.prog Try.f43 fun v _ => okV (V.ints .u64 5 (mulF x y)) v) ⟨[(V.ints .u64 5 x), (V.ints .u64 5 y)] ++ List.replicate 105 V.un, []⟩ := by
  rw [mulF_t]
  refine gm (wok1 (mW_ok _ _ _ _)) ?_
  refine gm (wok2 (mW_ok _ _ _ _)) ?_
  refine gm (wok1 (mW_ok _ _ _ _)) ?_
  refine gm (wok2 (mW_ok _ _ _ _)) ?_
  refine gm (wok1 (mW_ok _ _ _ _)) ?_
  refine gm (wok2 (mW_ok _ _ _ _)) ?_
  refine gm (wok1 (mW_ok _ _ _ _)) ?_
  refine gm (wok2 (mW_ok _ _ _ _)) ?_
  refine gm (wok1 (mW_ok _ _ _ _)) ?_
  refine gm (wok2 (mW_ok _ _ _ _)) ?_
  refine gm (wok1 (mW_ok _ _ _ _)) ?_
  refine gm (wok2 (mW_ok _ _ _ _)) ?_
  refine gm (wok1 (mW_ok _ _ _ _)) ?_
  refine gm (wok2 (mW_ok _ _ _ _)) ?_
  refine gm (wok1 (mW_ok _ _ _ _)) ?_
  refine gm (wok2 (mW_ok _ _ _ _)) ?_
  refine gm (wok1 (mW_ok _ _ _ _)) ?_
  refine gm (wok2 (mW_ok _ _ _ _)) ?_
  refine gm (wok1 (mW_ok _ _ _ _)) ?_
  refine gm (wok2 (mW_ok _ _ _ _)) ?_
  refine gm (wok1 (mW_ok _ _ _ _)) ?_
  refine gm (wok2 (mW_ok _ _ _ _)) ?_
  refine gm (wok1 (mW_ok _ _ _ _)) ?_
  refine gm (wok2 (mW_ok _ _ _ _)) ?_
  refine gm (wok1 (mW_ok _ _ _ _)) ?_
  refine gm (wok2 (mW_ok _ _ _ _)) ?_
  refine gm (wok1 (mW_ok _ _ _ _)) ?_
  refine gm (wok2 (mW_ok _ _ _ _)) ?_
  refine gm (wok1 (mW_ok _ _ _ _)) ?_
  refine gm (wok2 (mW_ok _ _ _ _)) ?_
  refine gm (wok1 (mW_ok _ _ _ _)) ?_
  refine gm (wok2 (mW_ok _ _ _ _)) ?_
  refine gm (wok1 (mW_ok _ _ _ _)) ?_
  refine gm (wok2 (mW_ok _ _ _ _)) ?_
  refine gm (wok1 (mW_ok _ _ _ _)) ?_
  refine gm (wok2 (mW_ok _ _ _ _)) ?_
  refine gm (wok1 (mW_ok _ _ _ _)) ?_
  refine gm (wok2 (mW_ok _ _ _ _)) ?_
  refine gm (wok1 (mW_ok _ _ _ _)) ?_
  refine gm (wok2 (mW_ok _ _ _ _)) ?_
  refine gm (wok1 (mW_ok _ _ _ _)) ?_
  refine gm (wok2 (mW_ok _ _ _ _)) ?_
  refine gm (wok1 (mW_ok _ _ _ _)) ?_
  refine gm (wok2 (mW_ok _ _ _ _)) ?_
  refine gm (wok1 (mW_ok _ _ _ _)) ?_
  refine gm (wok2 (mW_ok _ _ _ _)) ?_
  refine gm (wok1 (mW_ok _ _ _ _)) ?_
  refine gm (wok2 (mW_ok _ _ _ _)) ?_
  refine gm (wok1 (mW_ok _ _ _ _)) ?_
  refine gm (wok2 (mW_ok _ _ _ _)) ?_
  refine gm (ook (mW_ok _ _ _ _).2.1 (mO_nn _ _ _)) ?_
  refine gm (ook (mW_ok _ _ _ _).2.1 (mO_nn _ _ _)) ?_
  refine gm (ook (mW_ok _ _ _ _).2.1 (mO_nn _ _ _)) ?_
  refine gm (ook (mW_ok _ _ _ _).2.1 (mO_nn _ _ _)) ?_
  refine gm (ook (mW_ok _ _ _ _).2.1 (mO_nn _ _ _)) ?_
  refine gm (wok1 w0_ok) ?_
  refine gm (wok2 w0_ok) ?_
  refine gm (ook (wadd_ok _).2.1 (and_nn _ _)) ?_
  rfl
def g43 : List V → Option (Bool × V) := fun | [.ints .u64 5 x, .ints .u64 5 y] => some (true, (V.ints .u64 5 (mulF x y))) | _ => none
theorem mulF_p (x : (Nat → Int)) (y : (Nat → Int)) : (∀ μ μ', V.den μ' (V.ints .u64 5 (mulF x y)) = V.den μ (V.ints .u64 5 (mulF x y))) ∧ ∀ μ w, PureAt Try.prog 43 (([(V.ints .u64 5 x), (V.ints .u64 5 y)] : List V).map (V.den μ)).toArray (V.den μ (V.ints .u64 5 (mulF x y))) w :=
  pure_ok (F := o82n) (N := 300) (fn := Try.f43) (args := [(V.ints .u64 5 x), (V.ints .u64 5 y)]) (r := (V.ints .u64 5 (mulF x y))) (n := 105) hM o82n_ok G88_ok Try.func43 (by kernel_rfl) (by kernel_rfl) (by kernel_rfl) (by kernel_rfl) (mulF_a x y) (by kernel_rfl)
theorem g43_ok (vs : List V) (v : V) (h : g43 vs = some (true, v)) : (∀ μ μ', v.den μ' = v.den μ) ∧ ∀ μ w, PureAt Try.prog 43 (vs.map (V.den μ)).toArray (v.den μ) w := by
  unfold g43 at h
  split at h
  · simp only [Option.some.injEq, Prod.mk.injEq, true_and] at h
    subst h
    exact mulF_p _ _
  · simp at h
def o43 : Orc := ext 43 g43 o82n
theorem o43_ok : OrcOK Try.prog o43 := ext_ok o82n_ok g43_ok
end Go.Proofs.Ytbnclikjbnfodaa

namespace Go.Proofs.Ytbnclikjbnfodaa
open Go.Ev
/- field.Square -/
def squareF (x : (Nat → Int)) : (Nat → Int) := (mulF x x)
theorem squareF_t (x : (Nat → Int)) : awp Try.prog o43 noG 300 (body Try.f45) (ends Try.prog Try.f45 fun v _ => okV (V.ints .u64 5 (squareF x)) v) ⟨[(V.ints .u64 5 x)] ++ List.replicate 5 V.un, []⟩ = ((V.ints .u64 5 (squareF x)).den z0 = (V.ints .u64 5 (squareF x)).den z0) := by kernel_rfl
theorem squareF_a (x : (Nat → Int)) : awp Try.prog o43 noG 300 (body Try.f45) (ends Try.prog Try.f45 fun v _ => okV (V.ints .u64 5 (squareF x)) v) ⟨[(V.ints .u64 5 x)] ++ List.replicate 5 V.un, []⟩ := by rw [squareF_t]
def g45 : List V → Option (Bool × V) := fun | [.ints .u64 5 x] => some (true, (V.ints .u64 5 (squareF x))) | _ => none
theorem squareF_p (x : (Nat → Int)) : (∀ μ μ', V.den μ' (V.ints .u64 5 (squareF x)) = V.den μ (V.ints .u64 5 (squareF x))) ∧ ∀ μ w, PureAt Try.prog 45 (([(V.ints .u64 5 x)] : List V).map (V.den μ)).toArray (V.den μ (V.ints .u64 5 (squareF x))) w :=
  pure_ok (F := o43) (N := 300) (fn := Try.f45) (args := [(V.ints .u64 5 x)]) (r := (V.ints .u64 5 (squareF x))) (n := 5) hM o43_ok (noG_ok _) Try.func45 (by kernel_rfl) (by kernel_rfl) (by kernel_rfl) (by kernel_rfl) (squareF_a x) (by kernel_rfl)
theorem g45_ok (vs : List V) (v : V) (h : g45 vs = some (true, v)) : (∀ μ μ', v.den μ' = v.den μ) ∧ ∀ μ w, PureAt Try.prog 45 (vs.map (V.den μ)).toArray (v.den μ) w := by
  unfold g45 at h
  split at h
  · simp only [Option.some.injEq, Prod.mk.injEq, true_and] at h
    subst h
    exact squareF_p _
  · simp at h
def o45 : Orc := ext 45 g45 o43
theorem o45_ok : OrcOK Try.prog o45 := ext_ok o43_ok g45_ok

/- fareboxlaw05.FieldProducts -/
def lawProducts (x : (Nat → Int)) (y : (Nat → Int)) : Bool := (cond (isE (mulF x y) (rMul (rOf x) (rOf y))) (isE (squareF x) (rMul (rOf x) (rOf x))) false)
theorem lawProducts_t (x : (Nat → Int)) (y : (Nat → Int)) : awp Try.prog o45 noG 300 (body Try.f6) (ends Try.prog Try.f6 fun v _ => okV (V.bool (lawProducts x y)) v) ⟨[(V.ints .u64 5 x), (V.ints .u64 5 y)] ++ List.replicate 24 V.un, []⟩ = (mB (isE (mulF x y) (rMul (rOf x) (rOf y))) ((V.bool (isE (squareF x) (rMul (rOf x) (rOf x)))).den z0 = (V.bool (lawProducts x y)).den z0) ((V.bool false).den z0 = (V.bool (lawProducts x y)).den z0)) := by kernel_rfl
theorem lawProducts_a (x : (Nat → Int)) (y : (Nat → Int)) : awp Try.prog o45 noG 300 (body Try.f6) (ends Try.prog Try.f6 fun v _ => okV (V.bool (lawProducts x y)) v) ⟨[(V.ints .u64 5 x), (V.ints .u64 5 y)] ++ List.replicate 24 V.un, []⟩ := by
  rw [lawProducts_t]
  refine mBt (fun h1 => ?_) (fun h1 => ?_)
  · simp only [lawProducts, h1, cond_true]
  · simp only [lawProducts, h1, cond_false]
def g6 : List V → Option (Bool × V) := fun | [.ints .u64 5 x, .ints .u64 5 y] => some (true, (V.bool (lawProducts x y))) | _ => none
theorem lawProducts_p (x : (Nat → Int)) (y : (Nat → Int)) : (∀ μ μ', V.den μ' (V.bool (lawProducts x y)) = V.den μ (V.bool (lawProducts x y))) ∧ ∀ μ w, PureAt Try.prog 6 (([(V.ints .u64 5 x), (V.ints .u64 5 y)] : List V).map (V.den μ)).toArray (V.den μ (V.bool (lawProducts x y))) w :=
  pure_ok (F := o45) (N := 300) (fn := Try.f6) (args := [(V.ints .u64 5 x), (V.ints .u64 5 y)]) (r := (V.bool (lawProducts x y))) (n := 24) hM o45_ok (noG_ok _) Try.func6 (by kernel_rfl) (by kernel_rfl) (by kernel_rfl) (by kernel_rfl) (lawProducts_a x y) (by kernel_rfl)
theorem g6_ok (vs : List V) (v : V) (h : g6 vs = some (true, v)) : (∀ μ μ', v.den μ' = v.den μ) ∧ ∀ μ w, PureAt Try.prog 6 (vs.map (V.den μ)).toArray (v.den μ) w := by
  unfold g6 at h
  split at h
  · simp only [Option.some.injEq, Prod.mk.injEq, true_and] at h
    subst h
    exact lawProducts_p _ _
  · simp at h
def o6 : Orc := ext 6 g6 o45
theorem o6_ok : OrcOK Try.prog o6 := ext_ok o45_ok g6_ok
end Go.Proofs.Ytbnclikjbnfodaa

namespace Go.Proofs.Ytbnclikjbnfodaa
open Go.Ev
theorem powF_h (x : (Nat → Int)) (e : (Nat → Int)) (N : Nat) (K : V → List V → Prop) : awp Try.prog o45 noG N (body Try.f46) (ends Try.prog Try.f46 K) ⟨[(V.ints .u64 5 x), (V.ints .u8 32 e)] ++ List.replicate 25 V.un, []⟩ = lp (awp Try.prog o45 noG N (loopOf (body Try.f46))) (spineQ Try.prog o45 noG N (body Try.f46) (ends Try.prog Try.f46 K)) N ⟨[(V.ints .u64 5 x), (V.ints .u8 32 e), (V.ptr 0 0), (V.ptr 1 0), (V.ptr 2 0), (V.ptr 3 0), (V.int .i64 255), (V.ints .u64 5 (smallF 1)), V.un, V.un, V.un, V.un, V.un, V.un, V.un, V.un, V.un, V.un, V.un, V.un, V.un, V.un, V.un, V.un, V.un, V.un, V.un], [(V.ints .u64 5 x), (V.ints .u8 32 e), (V.ints .u64 5 (fun _ => 0)), (V.ints .u64 5 (smallF 1))]⟩ := by kernel_rfl
theorem powF_s (x : (Nat → Int)) (e : (Nat → Int)) (a : Nat → Int) (i : Int) (t8 t9 t10 t11 t12 t13 t14 t15 t16 t17 t18 t19 t20 t21 t22 t23 t24 t25 : V) (Q : Exit → St → Prop) (n : Nat) : lp (awp Try.prog o45 noG 300 (loopOf (body Try.f46))) Q (n + 1) ⟨[(V.ints .u64 5 x), (V.ints .u8 32 e), (V.ptr 0 0), (V.ptr 1 0), (V.ptr 2 0), (V.ptr 3 0), (V.int .i64 i), (V.ints .u64 5 (smallF 1)), t8, t9, t10, t11, t12, t13, t14, t15, t16, t17, t18, t19, t20, t21, t22, t23, t24, t25, V.un], [(V.ints .u64 5 x), (V.ints .u8 32 e), (V.ints .u64 5 (fun _ => 0)), (V.ints .u64 5 a)]⟩ = (mB (decide (i ≥ 0)) (gB (decide (0 ≤ (quoI .i64 i 8) ∧ (quoI .i64 i 8) < 32)) (gB (Nat.blt (0 + (Int.toNat (quoI .i64 i 8) * 1)) 32) (gB (decide (0 ≤ (remI i 8))) (mB ((andI .u8 (shrI .u8 (e (0 + (Int.toNat (quoI .i64 i 8) * 1))) (remI i 8)) 1) == 1) (lp (awp Try.prog o45 noG 300 (loopOf (body Try.f46))) Q n ⟨[(V.ints .u64 5 x), (V.ints .u8 32 e), (V.ptr 0 0), (V.ptr 1 0), (V.ptr 2 0), (V.ptr 3 0), (V.int .i64 (subI .i64 i 1)), (V.ints .u64 5 (smallF 1)), (V.int .i64 i), (V.bool (decide (i ≥ 0))), (V.int .i64 i), (V.int .i64 (subI .i64 i 1)), (V.ints .u64 5 a), (V.ints .u64 5 (squareF a)), (V.int .i64 i), (V.int .i64 (quoI .i64 i 8)), (V.ptr 1 (0 + (Int.toNat (quoI .i64 i 8) * 1))), (V.int .u8 (e (0 + (Int.toNat (quoI .i64 i 8) * 1)))), (V.int .i64 i), (V.int .i64 (remI i 8)), (V.int .u8 (shrI .u8 (e (0 + (Int.toNat (quoI .i64 i 8) * 1))) (remI i 8))), (V.int .u8 (andI .u8 (shrI .u8 (e (0 + (Int.toNat (quoI .i64 i 8) * 1))) (remI i 8)) 1)), (V.bool ((andI .u8 (shrI .u8 (e (0 + (Int.toNat (quoI .i64 i 8) * 1))) (remI i 8)) 1) == 1)), (V.ints .u64 5 (squareF a)), (V.ints .u64 5 x), (V.ints .u64 5 (mulF (squareF a) x)), V.un], [(V.ints .u64 5 x), (V.ints .u8 32 e), (V.ints .u64 5 (fun _ => 0)), (V.ints .u64 5 (mulF (squareF a) x))]⟩) (lp (awp Try.prog o45 noG 300 (loopOf (body Try.f46))) Q n ⟨[(V.ints .u64 5 x), (V.ints .u8 32 e), (V.ptr 0 0), (V.ptr 1 0), (V.ptr 2 0), (V.ptr 3 0), (V.int .i64 (subI .i64 i 1)), (V.ints .u64 5 (smallF 1)), (V.int .i64 i), (V.bool (decide (i ≥ 0))), (V.int .i64 i), (V.int .i64 (subI .i64 i 1)), (V.ints .u64 5 a), (V.ints .u64 5 (squareF a)), (V.int .i64 i), (V.int .i64 (quoI .i64 i 8)), (V.ptr 1 (0 + (Int.toNat (quoI .i64 i 8) * 1))), (V.int .u8 (e (0 + (Int.toNat (quoI .i64 i 8) * 1)))), (V.int .i64 i), (V.int .i64 (remI i 8)), (V.int .u8 (shrI .u8 (e (0 + (Int.toNat (quoI .i64 i 8) * 1))) (remI i 8))), (V.int .u8 (andI .u8 (shrI .u8 (e (0 + (Int.toNat (quoI .i64 i 8) * 1))) (remI i 8)) 1)), (V.bool ((andI .u8 (shrI .u8 (e (0 + (Int.toNat (quoI .i64 i 8) * 1))) (remI i 8)) 1) == 1)), t23, t24, t25, V.un], [(V.ints .u64 5 x), (V.ints .u8 32 e), (V.ints .u64 5 (fun _ => 0)), (V.ints .u64 5 (squareF a))]⟩))))) (Q (.exit 0) ⟨[(V.ints .u64 5 x), (V.ints .u8 32 e), (V.ptr 0 0), (V.ptr 1 0), (V.ptr 2 0), (V.ptr 3 0), (V.int .i64 i), (V.ints .u64 5 (smallF 1)), (V.int .i64 i), (V.bool (decide (i ≥ 0))), t10, t11, t12, t13, t14, t15, t16, t17, t18, t19, t20, t21, t22, t23, t24, t25, V.un], [(V.ints .u64 5 x), (V.ints .u8 32 e), (V.ints .u64 5 (fun _ => 0)), (V.ints .u64 5 a)]⟩)) := by kernel_rfl
theorem powF_x (x : (Nat → Int)) (e : (Nat → Int)) (a : Nat → Int) (i : Int) (t8 t9 t10 t11 t12 t13 t14 t15 t16 t17 t18 t19 t20 t21 t22 t23 t24 t25 : V) (R : V) : spineQ Try.prog o45 noG 300 (body Try.f46) (ends Try.prog Try.f46 fun v _ => okV R v) (.exit 0) ⟨[(V.ints .u64 5 x), (V.ints .u8 32 e), (V.ptr 0 0), (V.ptr 1 0), (V.ptr 2 0), (V.ptr 3 0), (V.int .i64 i), (V.ints .u64 5 (smallF 1)), t8, t9, t10, t11, t12, t13, t14, t15, t16, t17, t18, t19, t20, t21, t22, t23, t24, t25, V.un], [(V.ints .u64 5 x), (V.ints .u8 32 e), (V.ints .u64 5 (fun _ => 0)), (V.ints .u64 5 a)]⟩ = (okV R (V.ints .u64 5 a)) := by kernel_rfl

/-- The content behind one round more. -/
def powF_st (x : (Nat → Int)) (e : (Nat → Int)) (i : Int) (a : Nat → Int) : Nat → Int := (cond ((andI .u8 (shrI .u8 (e (0 + (Int.toNat (quoI .i64 i 8) * 1))) (remI i 8)) 1) == 1) (mulF (squareF a) x) (squareF a))
def powF_it (x : (Nat → Int)) (e : (Nat → Int)) : Nat → (Nat → Int)
  | 0 => (smallF 1)
  | k + 1 => powF_st x e ((256 - 1 - k : Nat) : Int) (powF_it x e k)
theorem powF_l (x : (Nat → Int)) (e : (Nat → Int)) (Q : Exit → St → Prop) (hQ : ∀ (t8 t9 t10 t11 t12 t13 t14 t15 t16 t17 t18 t19 t20 t21 t22 t23 t24 t25 : V), Q (.exit 0) ⟨[(V.ints .u64 5 x), (V.ints .u8 32 e), (V.ptr 0 0), (V.ptr 1 0), (V.ptr 2 0), (V.ptr 3 0), (V.int .i64 (((256 : Nat) : Int) - 1 - ((256 : Nat) : Int))), (V.ints .u64 5 (smallF 1)), t8, t9, t10, t11, t12, t13, t14, t15, t16, t17, t18, t19, t20, t21, t22, t23, t24, t25, V.un], [(V.ints .u64 5 x), (V.ints .u8 32 e), (V.ints .u64 5 (fun _ => 0)), (V.ints .u64 5 (powF_it x e 256))]⟩) : ∀ (d k n : Nat), k + d = 256 → d + 1 ≤ n → ∀ (t8 t9 t10 t11 t12 t13 t14 t15 t16 t17 t18 t19 t20 t21 t22 t23 t24 t25 : V), lp (awp Try.prog o45 noG 300 (loopOf (body Try.f46))) Q n ⟨[(V.ints .u64 5 x), (V.ints .u8 32 e), (V.ptr 0 0), (V.ptr 1 0), (V.ptr 2 0), (V.ptr 3 0), (V.int .i64 (((256 : Nat) : Int) - 1 - (k : Int))), (V.ints .u64 5 (smallF 1)), t8, t9, t10, t11, t12, t13, t14, t15, t16, t17, t18, t19, t20, t21, t22, t23, t24, t25, V.un], [(V.ints .u64 5 x), (V.ints .u8 32 e), (V.ints .u64 5 (fun _ => 0)), (V.ints .u64 5 (powF_it x e k))]⟩
  | 0, k, n, hk, hn, t8, t9, t10, t11, t12, t13, t14, t15, t16, t17, t18, t19, t20, t21, t22, t23, t24, t25 => by
    obtain ⟨n, rfl⟩ : ∃ m, n = m + 1 := ⟨n - 1, by omega⟩
    obtain rfl : k = 256 := by omega
    rw [powF_s]
    refine mBt (fun h => absurd (of_decide_eq_true h) (by simp)) (fun _ => ?_)
    exact hQ _ _ _ _ _ _ _ _ _ _ _ _ _ _ _ _ _ _
  | d + 1, k, n, hk, hn, t8, t9, t10, t11, t12, t13, t14, t15, t16, t17, t18, t19, t20, t21, t22, t23, t24, t25 => by
    obtain ⟨n, rfl⟩ : ∃ m, n = m + 1 := ⟨n - 1, by omega⟩
    have hi : (0 : Int) ≤ (((256 : Nat) : Int) - 1 - (k : Int)) ∧ (((256 : Nat) : Int) - 1 - (k : Int)) < 256 := by omega
    have hix : (((256 : Nat) : Int) - 1 - (k : Int)) = ((256 - 1 - k : Nat) : Int) := by omega
    rw [hix] at hi ⊢
    have g0 : (decide (0 ≤ (quoI .i64 ((256 - 1 - k : Nat) : Int) 8) ∧ (quoI .i64 ((256 - 1 - k : Nat) : Int) 8) < 32)) = true := by first | (rw [show quoI .i64 ((256 - 1 - k : Nat) : Int) 8 = (((256 - 1 - k) / 8 : Nat) : Int) from quo_nat (256 - 1 - k) 8 (by omega)]; exact bltT.2 (by simp; omega)) | (rw [show quoI .i64 ((256 - 1 - k : Nat) : Int) 8 = (((256 - 1 - k) / 8 : Nat) : Int) from quo_nat (256 - 1 - k) 8 (by omega)]; simp; omega) | (rw [show remI ((256 - 1 - k : Nat) : Int) 8 = (((256 - 1 - k) % 8 : Nat) : Int) from rem_nat (256 - 1 - k) 8]; simp; omega)
    have g1 : (Nat.blt (0 + (Int.toNat (quoI .i64 ((256 - 1 - k : Nat) : Int) 8) * 1)) 32) = true := by first | (rw [show quoI .i64 ((256 - 1 - k : Nat) : Int) 8 = (((256 - 1 - k) / 8 : Nat) : Int) from quo_nat (256 - 1 - k) 8 (by omega)]; exact bltT.2 (by simp; omega)) | (rw [show quoI .i64 ((256 - 1 - k : Nat) : Int) 8 = (((256 - 1 - k) / 8 : Nat) : Int) from quo_nat (256 - 1 - k) 8 (by omega)]; simp; omega) | (rw [show remI ((256 - 1 - k : Nat) : Int) 8 = (((256 - 1 - k) % 8 : Nat) : Int) from rem_nat (256 - 1 - k) 8]; simp; omega)
    have g2 : (decide (0 ≤ (remI ((256 - 1 - k : Nat) : Int) 8))) = true := by first | (rw [show quoI .i64 ((256 - 1 - k : Nat) : Int) 8 = (((256 - 1 - k) / 8 : Nat) : Int) from quo_nat (256 - 1 - k) 8 (by omega)]; exact bltT.2 (by simp; omega)) | (rw [show quoI .i64 ((256 - 1 - k : Nat) : Int) 8 = (((256 - 1 - k) / 8 : Nat) : Int) from quo_nat (256 - 1 - k) 8 (by omega)]; simp; omega) | (rw [show remI ((256 - 1 - k : Nat) : Int) 8 = (((256 - 1 - k) % 8 : Nat) : Int) from rem_nat (256 - 1 - k) 8]; simp; omega)
    have hnx : (subI .i64 ((256 - 1 - k : Nat) : Int) 1) = (((256 : Nat) : Int) - 1 - ((k + 1 : Nat) : Int)) := by rw [sub1_nat _ (by omega)]; omega
    rw [powF_s]
    refine mBt (fun _ => ?_) (fun h => absurd hi.1 (of_decide_eq_false h))
    refine gm g0 ?_
    refine gm g1 ?_
    refine gm g2 ?_
    refine mBt (fun c0 => ?_) (fun c0 => ?_)
    · rw [hnx]
      have h := powF_l x e Q hQ d (k + 1) n (by omega) (by omega)
      simp only [powF_it, powF_st, c0, cond_true] at h
      exact h _ _ _ _ _ _ _ _ _ _ _ _ _ _ _ _ _ _
    · rw [hnx]
      have h := powF_l x e Q hQ d (k + 1) n (by omega) (by omega)
      simp only [powF_it, powF_st, c0, cond_false] at h
      exact h _ _ _ _ _ _ _ _ _ _ _ _ _ _ _ _ _ _

def powF (x e : Nat → Int) : Nat → Int := powF_it x e 256
theorem powF_a (x : (Nat → Int)) (e : (Nat → Int)) : awp Try.prog o45 noG 300 (body Try.f46) (ends Try.prog Try.f46 fun v _ => okV (V.ints .u64 5 (powF x e)) v) ⟨[(V.ints .u64 5 x), (V.ints .u8 32 e)] ++ List.replicate 25 V.un, []⟩ := by
  rw [powF_h]
  exact powF_l x e _ (fun _ _ _ _ _ _ _ _ _ _ _ _ _ _ _ _ _ _ => by rw [powF_x]; exact okV_refl rfl) 256 0 300 (by omega) (by omega) _ _ _ _ _ _ _ _ _ _ _ _ _ _ _ _ _ _

def g46 : List V → Option (Bool × V) := fun | [.ints .u64 5 x, .ints .u8 32 e] => some (true, (V.ints .u64 5 (powF x e))) | _ => none
theorem powF_p (x : (Nat → Int)) (e : (Nat → Int)) : (∀ μ μ', V.den μ' (V.ints .u64 5 (powF x e)) = V.den μ (V.ints .u64 5 (powF x e))) ∧ ∀ μ w, PureAt Try.prog 46 (([(V.ints .u64 5 x), (V.ints .u8 32 e)] : List V).map (V.den μ)).toArray (V.den μ (V.ints .u64 5 (powF x e))) w :=
  pure_ok (F := o45) (N := 300) (fn := Try.f46) (args := [(V.ints .u64 5 x), (V.ints .u8 32 e)]) (r := (V.ints .u64 5 (powF x e))) (n := 25) hM o45_ok (noG_ok _) Try.func46 (by kernel_rfl) (by kernel_rfl) (by kernel_rfl) (by kernel_rfl) (powF_a x e) (by kernel_rfl)
theorem g46_ok (vs : List V) (v : V) (h : g46 vs = some (true, v)) : (∀ μ μ', v.den μ' = v.den μ) ∧ ∀ μ w, PureAt Try.prog 46 (vs.map (V.den μ)).toArray (v.den μ) w := by
  unfold g46 at h
  split at h
  · simp only [Option.some.injEq, Prod.mk.injEq, true_and] at h
    subst h
    exact powF_p _ _
  · simp at h
def o46 : Orc := ext 46 g46 o45
theorem o46_ok : OrcOK Try.prog o46 := ext_ok o45_ok g46_ok
end Go.Proofs.Ytbnclikjbnfodaa
