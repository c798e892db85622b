import Derived.Test.YtbnclikjbnfodaaWC
import Derived.Test.YtbnclikjbnfodaaRows
namespace Go.Proofs.Ytbnclikjbnfodaa
open Go.Ev
/- fareboxref05.Add -/
def rAdd (a : (Nat → Int)) (b : (Nat → Int)) : (Nat → Int) := (rLeast (l10 (addI .u64 (a 0) (b 0)) (addI .u64 (a 1) (b 1)) (addI .u64 (a 2) (b 2)) (addI .u64 (a 3) (b 3)) (addI .u64 (a 4) (b 4)) (addI .u64 (a 5) (b 5)) (addI .u64 (a 6) (b 6)) (addI .u64 (a 7) (b 7)) (addI .u64 (a 8) (b 8)) (addI .u64 (a 9) (b 9))))
theorem rAdd_t (a : (Nat → Int)) (b : (Nat → Int)) : awp Try.prog o85 noG 300 (body Try.f30) (ends Try.prog Try.f30 fun v _ => okV (V.ints .u64 10 (rAdd a b)) v) ⟨[(V.ints .u64 10 a), (V.ints .u64 10 b)] ++ List.replicate 19 V.un, []⟩ = ((V.ints .u64 10 (rAdd a b)).den z0 = (V.ints .u64 10 (rAdd a b)).den z0) := by kernel_rfl
theorem rAdd_a (a : (Nat → Int)) (b : (Nat → Int)) : awp Try.prog o85 noG 300 (body Try.f30) (ends Try.prog Try.f30 fun v _ => okV (V.ints .u64 10 (rAdd a b)) v) ⟨[(V.ints .u64 10 a), (V.ints .u64 10 b)] ++ List.replicate 19 V.un, []⟩ := by rw [rAdd_t]
def g30 : List V → Option (Bool × V) := fun | [.ints .u64 10 a, .ints .u64 10 b] => some (true, (V.ints .u64 10 (rAdd a b))) | _ => none
theorem rAdd_p (a : (Nat → Int)) (b : (Nat → Int)) : (∀ μ μ', V.den μ' (V.ints .u64 10 (rAdd a b)) = V.den μ (V.ints .u64 10 (rAdd a b))) ∧ ∀ μ w, PureAt Try.prog 30 (([(V.ints .u64 10 a), (V.ints .u64 10 b)] : List V).map (V.den μ)).toArray (V.den μ (V.ints .u64 10 (rAdd a b))) w :=
  pure_ok (F := o85) (N := 300) (fn := Try.f30) (args := [(V.ints .u64 10 a), (V.ints .u64 10 b)]) (r := (V.ints .u64 10 (rAdd a b))) (n := 19) hM o85_ok (noG_ok _) Try.func30 (by kernel_rfl) (by kernel_rfl) (by kernel_rfl) (by kernel_rfl) (rAdd_a a b) (by kernel_rfl)
theorem g30_ok (vs : List V) (v : V) (h : g30 vs = some (true, v)) : (∀ μ μ', v.den μ' = v.den μ) ∧ ∀ μ w, PureAt Try.prog 30 (vs.map (V.den μ)).toArray (v.den μ) w := by
  unfold g30 at h
  split at h
  · simp only [Option.some.injEq, Prod.mk.injEq, true_and] at h
    subst h
    exact rAdd_p _ _
  · simp at h
def o30 : Orc := ext 30 g30 o85
theorem o30_ok : OrcOK Try.prog o30 := ext_ok o85_ok g30_ok

/- fareboxref05.Neg -/
def rNeg (a : (Nat → Int)) : (Nat → Int) := (rLeast (l10 ((rLess rPrime a) 0) ((rLess rPrime a) 1) ((rLess rPrime a) 2) ((rLess rPrime a) 3) ((rLess rPrime a) 4) ((rLess rPrime a) 5) ((rLess rPrime a) 6) ((rLess rPrime a) 7) ((rLess rPrime a) 8) ((rLess rPrime a) 9)))
theorem rNeg_t (a : (Nat → Int)) : awp Try.prog o30 noG 300 (body Try.f34) (ends Try.prog Try.f34 fun v _ => okV (V.ints .u64 10 (rNeg a)) v) ⟨[(V.ints .u64 10 a)] ++ List.replicate 6 V.un, []⟩ = ((V.ints .u64 10 (rNeg a)).den z0 = (V.ints .u64 10 (rNeg a)).den z0) := by kernel_rfl
theorem rNeg_a (a : (Nat → Int)) : awp Try.prog o30 noG 300 (body Try.f34) (ends Try.prog Try.f34 fun v _ => okV (V.ints .u64 10 (rNeg a)) v) ⟨[(V.ints .u64 10 a)] ++ List.replicate 6 V.un, []⟩ := by rw [rNeg_t]
def g34 : List V → Option (Bool × V) := fun | [.ints .u64 10 a] => some (true, (V.ints .u64 10 (rNeg a))) | _ => none
theorem rNeg_p (a : (Nat → Int)) : (∀ μ μ', V.den μ' (V.ints .u64 10 (rNeg a)) = V.den μ (V.ints .u64 10 (rNeg a))) ∧ ∀ μ w, PureAt Try.prog 34 (([(V.ints .u64 10 a)] : List V).map (V.den μ)).toArray (V.den μ (V.ints .u64 10 (rNeg a))) w :=
  pure_ok (F := o30) (N := 300) (fn := Try.f34) (args := [(V.ints .u64 10 a)]) (r := (V.ints .u64 10 (rNeg a))) (n := 6) hM o30_ok (noG_ok _) Try.func34 (by kernel_rfl) (by kernel_rfl) (by kernel_rfl) (by kernel_rfl) (rNeg_a a) (by kernel_rfl)
theorem g34_ok (vs : List V) (v : V) (h : g34 vs = some (true, v)) : (∀ μ μ', v.den μ' = v.den μ) ∧ ∀ μ w, PureAt Try.prog 34 (vs.map (V.den μ)).toArray (v.den μ) w := by
  unfold g34 at h
  split at h
  · simp only [Option.some.injEq, Prod.mk.injEq, true_and] at h
    subst h
    exact rNeg_p _
  · simp at h
def o34 : Orc := ext 34 g34 o30
theorem o34_ok : OrcOK Try.prog o34 := ext_ok o30_ok g34_ok

/- fareboxref05.Sub -/
def rSub (a : (Nat → Int)) (b : (Nat → Int)) : (Nat → Int) := (rAdd a (rNeg b))
theorem rSub_t (a : (Nat → Int)) (b : (Nat → Int)) : awp Try.prog o34 noG 300 (body Try.f32) (ends Try.prog Try.f32 fun v _ => okV (V.ints .u64 10 (rSub a b)) v) ⟨[(V.ints .u64 10 a), (V.ints .u64 10 b)] ++ List.replicate 7 V.un, []⟩ = ((V.ints .u64 10 (rSub a b)).den z0 = (V.ints .u64 10 (rSub a b)).den z0) := by kernel_rfl
theorem rSub_a (a : (Nat → Int)) (b : (Nat → Int)) : awp Try.prog o34 noG 300 (body Try.f32) (ends Try.prog Try.f32 fun v _ => okV (V.ints .u64 10 (rSub a b)) v) ⟨[(V.ints .u64 10 a), (V.ints .u64 10 b)] ++ List.replicate 7 V.un, []⟩ := by rw [rSub_t]
def g32 : List V → Option (Bool × V) := fun | [.ints .u64 10 a, .ints .u64 10 b] => some (true, (V.ints .u64 10 (rSub a b))) | _ => none
theorem rSub_p (a : (Nat → Int)) (b : (Nat → Int)) : (∀ μ μ', V.den μ' (V.ints .u64 10 (rSub a b)) = V.den μ (V.ints .u64 10 (rSub a b))) ∧ ∀ μ w, PureAt Try.prog 32 (([(V.ints .u64 10 a), (V.ints .u64 10 b)] : List V).map (V.den μ)).toArray (V.den μ (V.ints .u64 10 (rSub a b))) w :=
  pure_ok (F := o34) (N := 300) (fn := Try.f32) (args := [(V.ints .u64 10 a), (V.ints .u64 10 b)]) (r := (V.ints .u64 10 (rSub a b))) (n := 7) hM o34_ok (noG_ok _) Try.func32 (by kernel_rfl) (by kernel_rfl) (by kernel_rfl) (by kernel_rfl) (rSub_a a b) (by kernel_rfl)
theorem g32_ok (vs : List V) (v : V) (h : g32 vs = some (true, v)) : (∀ μ μ', v.den μ' = v.den μ) ∧ ∀ μ w, PureAt Try.prog 32 (vs.map (V.den μ)).toArray (v.den μ) w := by
  unfold g32 at h
  split at h
  · simp only [Option.some.injEq, Prod.mk.injEq, true_and] at h
    subst h
    exact rSub_p _ _
  · simp at h
def o32 : Orc := ext 32 g32 o34
theorem o32_ok : OrcOK Try.prog o32 := ext_ok o34_ok g32_ok
end Go.Proofs.Ytbnclikjbnfodaa
