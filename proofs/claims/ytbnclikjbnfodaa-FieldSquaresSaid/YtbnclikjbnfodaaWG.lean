import Derived.Test.YtbnclikjbnfodaaWF
import Derived.Test.YtbnclikjbnfodaaRows
namespace Go.Proofs.Ytbnclikjbnfodaa
open Go.Ev
/- fareboxref05.Of -/
def rOf (x : (Nat → Int)) : (Nat → Int) := (rAdd (rMul (rAdd (rMul (rAdd (rMul (rAdd (rMul (rSmall (x 4)) (rSmall 2251799813685248)) (rSmall (x 3))) (rSmall 2251799813685248)) (rSmall (x 2))) (rSmall 2251799813685248)) (rSmall (x 1))) (rSmall 2251799813685248)) (rSmall (x 0)))
theorem rOf_t (x : (Nat → Int)) : awp Try.prog o83 noG 300 (body Try.f21) (ends Try.prog Try.f21 fun v _ => okV (V.ints .u64 10 (rOf x)) v) ⟨[(V.ints .u64 5 x)] ++ List.replicate 22 V.un, []⟩ = ((V.ints .u64 10 (rOf x)).den z0 = (V.ints .u64 10 (rOf x)).den z0) := by kernel_rfl
theorem rOf_a (x : (Nat → Int)) : awp Try.prog o83 noG 300 (body Try.f21) (ends Try.prog Try.f21 fun v _ => okV (V.ints .u64 10 (rOf x)) v) ⟨[(V.ints .u64 5 x)] ++ List.replicate 22 V.un, []⟩ := by rw [rOf_t]
def g21 : List V → Option (Bool × V) := fun | [.ints .u64 5 x] => some (true, (V.ints .u64 10 (rOf x))) | _ => none
theorem rOf_p (x : (Nat → Int)) : (∀ μ μ', V.den μ' (V.ints .u64 10 (rOf x)) = V.den μ (V.ints .u64 10 (rOf x))) ∧ ∀ μ w, PureAt Try.prog 21 (([(V.ints .u64 5 x)] : List V).map (V.den μ)).toArray (V.den μ (V.ints .u64 10 (rOf x))) w :=
  pure_ok (F := o83) (N := 300) (fn := Try.f21) (args := [(V.ints .u64 5 x)]) (r := (V.ints .u64 10 (rOf x))) (n := 22) hM o83_ok (noG_ok _) Try.func21 (by kernel_rfl) (by kernel_rfl) (by kernel_rfl) (by kernel_rfl) (rOf_a x) (by kernel_rfl)
theorem g21_ok (vs : List V) (v : V) (h : g21 vs = some (true, v)) : (∀ μ μ', v.den μ' = v.den μ) ∧ ∀ μ w, PureAt Try.prog 21 (vs.map (V.den μ)).toArray (v.den μ) w := by
  unfold g21 at h
  split at h
  · simp only [Option.some.injEq, Prod.mk.injEq, true_and] at h
    subst h
    exact rOf_p _
  · simp at h
def o21 : Orc := ext 21 g21 o83
theorem o21_ok : OrcOK Try.prog o21 := ext_ok o83_ok g21_ok

/- fareboxlaw05.is -/
def isE (x : (Nat → Int)) (a : (Nat → Int)) : Bool := (eqN 5 x (rElement a))
theorem isE_t (x : (Nat → Int)) (a : (Nat → Int)) : awp Try.prog o21 noG 300 (body Try.f27) (ends Try.prog Try.f27 fun v _ => okV (V.bool (isE x a)) v) ⟨[(V.ints .u64 5 x), (V.ints .u64 10 a)] ++ List.replicate 7 V.un, []⟩ = ((V.bool (isE x a)).den z0 = (V.bool (isE x a)).den z0) := by kernel_rfl
theorem isE_a (x : (Nat → Int)) (a : (Nat → Int)) : awp Try.prog o21 noG 300 (body Try.f27) (ends Try.prog Try.f27 fun v _ => okV (V.bool (isE x a)) v) ⟨[(V.ints .u64 5 x), (V.ints .u64 10 a)] ++ List.replicate 7 V.un, []⟩ := by rw [isE_t]
def g27 : List V → Option (Bool × V) := fun | [.ints .u64 5 x, .ints .u64 10 a] => some (true, (V.bool (isE x a))) | _ => none
theorem isE_p (x : (Nat → Int)) (a : (Nat → Int)) : (∀ μ μ', V.den μ' (V.bool (isE x a)) = V.den μ (V.bool (isE x a))) ∧ ∀ μ w, PureAt Try.prog 27 (([(V.ints .u64 5 x), (V.ints .u64 10 a)] : List V).map (V.den μ)).toArray (V.den μ (V.bool (isE x a))) w :=
  pure_ok (F := o21) (N := 300) (fn := Try.f27) (args := [(V.ints .u64 5 x), (V.ints .u64 10 a)]) (r := (V.bool (isE x a))) (n := 7) hM o21_ok (noG_ok _) Try.func27 (by kernel_rfl) (by kernel_rfl) (by kernel_rfl) (by kernel_rfl) (isE_a x a) (by kernel_rfl)
theorem g27_ok (vs : List V) (v : V) (h : g27 vs = some (true, v)) : (∀ μ μ', v.den μ' = v.den μ) ∧ ∀ μ w, PureAt Try.prog 27 (vs.map (V.den μ)).toArray (v.den μ) w := by
  unfold g27 at h
  split at h
  · simp only [Option.some.injEq, Prod.mk.injEq, true_and] at h
    subst h
    exact isE_p _ _
  · simp at h
def o27 : Orc := ext 27 g27 o21
theorem o27_ok : OrcOK Try.prog o27 := ext_ok o21_ok g27_ok

/- fareboxlaw05.FieldTells -/
def lawTells (x : (Nat → Int)) (y : (Nat → Int)) (c : Bool) : Bool := (cond (!((equalF x y) == (eqN 10 (rOf x) (rOf y)))) false (cond (!((isZeroF x) == (rIsZero (rOf x)))) false (cond (!((isOddF x) == (rIsOdd (rOf x)))) false (cond c (isE (selectF true x y) (rOf x)) (isE (selectF false x y) (rOf y))))))
theorem lawTells_t (x : (Nat → Int)) (y : (Nat → Int)) (c : Bool) : awp Try.prog o27 noG 300 (body Try.f3) (ends Try.prog Try.f3 fun v _ => okV (V.bool (lawTells x y c)) v) ⟨[(V.ints .u64 5 x), (V.ints .u64 5 y), (V.bool c)] ++ List.replicate 42 V.un, []⟩ = (mB (!((equalF x y) == (eqN 10 (rOf x) (rOf y)))) ((V.bool false).den z0 = (V.bool (lawTells x y c)).den z0) (mB (!((isZeroF x) == (rIsZero (rOf x)))) ((V.bool false).den z0 = (V.bool (lawTells x y c)).den z0) (mB (!((isOddF x) == (rIsOdd (rOf x)))) ((V.bool false).den z0 = (V.bool (lawTells x y c)).den z0) (mB c ((V.bool (isE (selectF true x y) (rOf x))).den z0 = (V.bool (lawTells x y c)).den z0) ((V.bool (isE (selectF false x y) (rOf y))).den z0 = (V.bool (lawTells x y c)).den z0))))) := by kernel_rfl
theorem lawTells_a (x : (Nat → Int)) (y : (Nat → Int)) (c : Bool) : awp Try.prog o27 noG 300 (body Try.f3) (ends Try.prog Try.f3 fun v _ => okV (V.bool (lawTells x y c)) v) ⟨[(V.ints .u64 5 x), (V.ints .u64 5 y), (V.bool c)] ++ List.replicate 42 V.un, []⟩ := by
  rw [lawTells_t]
  refine mBt (fun h1 => ?_) (fun h1 => ?_)
  · simp only [lawTells, h1, cond_true]
  · refine mBt (fun h2 => ?_) (fun h2 => ?_)
    · simp only [lawTells, h1, h2, cond_true, cond_false]
    · refine mBt (fun h3 => ?_) (fun h3 => ?_)
      · simp only [lawTells, h1, h2, h3, cond_true, cond_false]
      · refine mBt (fun h4 => ?_) (fun h4 => ?_)
        · simp only [lawTells, h1, h2, h3, h4, cond_true, cond_false]
        · simp only [lawTells, h1, h2, h3, h4, cond_false]
def g3 : List V → Option (Bool × V) := fun | [.ints .u64 5 x, .ints .u64 5 y, .bool c] => some (true, (V.bool (lawTells x y c))) | _ => none
theorem lawTells_p (x : (Nat → Int)) (y : (Nat → Int)) (c : Bool) : (∀ μ μ', V.den μ' (V.bool (lawTells x y c)) = V.den μ (V.bool (lawTells x y c))) ∧ ∀ μ w, PureAt Try.prog 3 (([(V.ints .u64 5 x), (V.ints .u64 5 y), (V.bool c)] : List V).map (V.den μ)).toArray (V.den μ (V.bool (lawTells x y c))) w :=
  pure_ok (F := o27) (N := 300) (fn := Try.f3) (args := [(V.ints .u64 5 x), (V.ints .u64 5 y), (V.bool c)]) (r := (V.bool (lawTells x y c))) (n := 42) hM o27_ok (noG_ok _) Try.func3 (by kernel_rfl) (by kernel_rfl) (by kernel_rfl) (by kernel_rfl) (lawTells_a x y c) (by kernel_rfl)
theorem g3_ok (vs : List V) (v : V) (h : g3 vs = some (true, v)) : (∀ μ μ', v.den μ' = v.den μ) ∧ ∀ μ w, PureAt Try.prog 3 (vs.map (V.den μ)).toArray (v.den μ) w := by
  unfold g3 at h
  split at h
  · simp only [Option.some.injEq, Prod.mk.injEq, true_and] at h
    subst h
    exact lawTells_p _ _ _
  · simp at h
def o3 : Orc := ext 3 g3 o27
theorem o3_ok : OrcOK Try.prog o3 := ext_ok o27_ok g3_ok
end Go.Proofs.Ytbnclikjbnfodaa
