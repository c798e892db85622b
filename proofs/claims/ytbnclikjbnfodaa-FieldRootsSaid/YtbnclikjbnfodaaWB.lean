import Derived.Test.YtbnclikjbnfodaaWA
import Derived.Test.YtbnclikjbnfodaaRows
namespace Go.Proofs.Ytbnclikjbnfodaa
open Go.Ev
/- fareboxref05.Small -/
def rSmall (n : Int) : (Nat → Int) := (L [(andI .u64 n 67108863), (andI .u64 (shrI .u64 n 26) 67108863), (shrI .u64 n 52), 0, 0, 0, 0, 0, 0, 0])
theorem rSmall_t (n : Int) : awp Try.prog o41 noG 300 (body Try.f42) (ends Try.prog Try.f42 fun v _ => okV (V.ints .u64 10 (rSmall n)) v) ⟨[(V.int .u64 n)] ++ List.replicate 10 V.un, []⟩ = ((V.ints .u64 10 (rSmall n)).den z0 = (V.ints .u64 10 (rSmall n)).den z0) := by kernel_rfl
theorem rSmall_a (n : Int) : awp Try.prog o41 noG 300 (body Try.f42) (ends Try.prog Try.f42 fun v _ => okV (V.ints .u64 10 (rSmall n)) v) ⟨[(V.int .u64 n)] ++ List.replicate 10 V.un, []⟩ := by rw [rSmall_t]
def g42 : List V → Option (Bool × V) := fun | [.int .u64 n] => some (true, (V.ints .u64 10 (rSmall n))) | _ => none
theorem rSmall_p (n : Int) : (∀ μ μ', V.den μ' (V.ints .u64 10 (rSmall n)) = V.den μ (V.ints .u64 10 (rSmall n))) ∧ ∀ μ w, PureAt Try.prog 42 (([(V.int .u64 n)] : List V).map (V.den μ)).toArray (V.den μ (V.ints .u64 10 (rSmall n))) w :=
  pure_ok (F := o41) (N := 300) (fn := Try.f42) (args := [(V.int .u64 n)]) (r := (V.ints .u64 10 (rSmall n))) (n := 10) hM o41_ok (noG_ok _) Try.func42 (by kernel_rfl) (by kernel_rfl) (by kernel_rfl) (by kernel_rfl) (rSmall_a n) (by kernel_rfl)
theorem g42_ok (vs : List V) (v : V) (h : g42 vs = some (true, v)) : (∀ μ μ', v.den μ' = v.den μ) ∧ ∀ μ w, PureAt Try.prog 42 (vs.map (V.den μ)).toArray (v.den μ) w := by
  unfold g42 at h
  split at h
  · simp only [Option.some.injEq, Prod.mk.injEq, true_and] at h
    subst h
    exact rSmall_p _
  · simp at h
def o42 : Orc := ext 42 g42 o41
theorem o42_ok : OrcOK Try.prog o42 := ext_ok o41_ok g42_ok

/- fareboxref05.carried -/
def rCarried (a : (Nat → Int)) : (Nat → Int) := (L [(andI .u64 (a 0) 67108863), (andI .u64 (addI .u64 (a 1) (shrI .u64 (a 0) 26)) 67108863), (andI .u64 (addI .u64 (a 2) (shrI .u64 (addI .u64 (a 1) (shrI .u64 (a 0) 26)) 26)) 67108863), (andI .u64 (addI .u64 (a 3) (shrI .u64 (addI .u64 (a 2) (shrI .u64 (addI .u64 (a 1) (shrI .u64 (a 0) 26)) 26)) 26)) 67108863), (andI .u64 (addI .u64 (a 4) (shrI .u64 (addI .u64 (a 3) (shrI .u64 (addI .u64 (a 2) (shrI .u64 (addI .u64 (a 1) (shrI .u64 (a 0) 26)) 26)) 26)) 26)) 67108863), (andI .u64 (addI .u64 (a 5) (shrI .u64 (addI .u64 (a 4) (shrI .u64 (addI .u64 (a 3) (shrI .u64 (addI .u64 (a 2) (shrI .u64 (addI .u64 (a 1) (shrI .u64 (a 0) 26)) 26)) 26)) 26)) 26)) 67108863), (andI .u64 (addI .u64 (a 6) (shrI .u64 (addI .u64 (a 5) (shrI .u64 (addI .u64 (a 4) (shrI .u64 (addI .u64 (a 3) (shrI .u64 (addI .u64 (a 2) (shrI .u64 (addI .u64 (a 1) (shrI .u64 (a 0) 26)) 26)) 26)) 26)) 26)) 26)) 67108863), (andI .u64 (addI .u64 (a 7) (shrI .u64 (addI .u64 (a 6) (shrI .u64 (addI .u64 (a 5) (shrI .u64 (addI .u64 (a 4) (shrI .u64 (addI .u64 (a 3) (shrI .u64 (addI .u64 (a 2) (shrI .u64 (addI .u64 (a 1) (shrI .u64 (a 0) 26)) 26)) 26)) 26)) 26)) 26)) 26)) 67108863), (andI .u64 (addI .u64 (a 8) (shrI .u64 (addI .u64 (a 7) (shrI .u64 (addI .u64 (a 6) (shrI .u64 (addI .u64 (a 5) (shrI .u64 (addI .u64 (a 4) (shrI .u64 (addI .u64 (a 3) (shrI .u64 (addI .u64 (a 2) (shrI .u64 (addI .u64 (a 1) (shrI .u64 (a 0) 26)) 26)) 26)) 26)) 26)) 26)) 26)) 26)) 67108863), (addI .u64 (a 9) (shrI .u64 (addI .u64 (a 8) (shrI .u64 (addI .u64 (a 7) (shrI .u64 (addI .u64 (a 6) (shrI .u64 (addI .u64 (a 5) (shrI .u64 (addI .u64 (a 4) (shrI .u64 (addI .u64 (a 3) (shrI .u64 (addI .u64 (a 2) (shrI .u64 (addI .u64 (a 1) (shrI .u64 (a 0) 26)) 26)) 26)) 26)) 26)) 26)) 26)) 26)) 26))])
theorem rCarried_t (a : (Nat → Int)) : awp Try.prog o42 noG 300 (body Try.f117) (ends Try.prog Try.f117 fun v _ => okV (V.ints .u64 10 (rCarried a)) v) ⟨[(V.ints .u64 10 a)] ++ List.replicate 26 V.un, []⟩ = ((V.ints .u64 10 (rCarried a)).den z0 = (V.ints .u64 10 (rCarried a)).den z0) := by kernel_rfl
theorem rCarried_a (a : (Nat → Int)) : awp Try.prog o42 noG 300 (body Try.f117) (ends Try.prog Try.f117 fun v _ => okV (V.ints .u64 10 (rCarried a)) v) ⟨[(V.ints .u64 10 a)] ++ List.replicate 26 V.un, []⟩ := by rw [rCarried_t]
def g117 : List V → Option (Bool × V) := fun | [.ints .u64 10 a] => some (true, (V.ints .u64 10 (rCarried a))) | _ => none
theorem rCarried_p (a : (Nat → Int)) : (∀ μ μ', V.den μ' (V.ints .u64 10 (rCarried a)) = V.den μ (V.ints .u64 10 (rCarried a))) ∧ ∀ μ w, PureAt Try.prog 117 (([(V.ints .u64 10 a)] : List V).map (V.den μ)).toArray (V.den μ (V.ints .u64 10 (rCarried a))) w :=
  pure_ok (F := o42) (N := 300) (fn := Try.f117) (args := [(V.ints .u64 10 a)]) (r := (V.ints .u64 10 (rCarried a))) (n := 26) hM o42_ok (noG_ok _) Try.func117 (by kernel_rfl) (by kernel_rfl) (by kernel_rfl) (by kernel_rfl) (rCarried_a a) (by kernel_rfl)
theorem g117_ok (vs : List V) (v : V) (h : g117 vs = some (true, v)) : (∀ μ μ', v.den μ' = v.den μ) ∧ ∀ μ w, PureAt Try.prog 117 (vs.map (V.den μ)).toArray (v.den μ) w := by
  unfold g117 at h
  split at h
  · simp only [Option.some.injEq, Prod.mk.injEq, true_and] at h
    subst h
    exact rCarried_p _
  · simp at h
def o117 : Orc := ext 117 g117 o42
theorem o117_ok : OrcOK Try.prog o117 := ext_ok o42_ok g117_ok

/- fareboxref05.lessened -/
def rLess (a : (Nat → Int)) (b : (Nat → Int)) : (Nat → Int) := (L [(andI .u64 (subI .u64 (subI .u64 (addI .u64 (addI .u64 (a 0) 67108863) 1) (b 0)) 0) 67108863), (andI .u64 (subI .u64 (subI .u64 (addI .u64 (addI .u64 (a 1) 67108863) 1) (b 1)) (subI .u64 1 (shrI .u64 (subI .u64 (subI .u64 (addI .u64 (addI .u64 (a 0) 67108863) 1) (b 0)) 0) 26))) 67108863), (andI .u64 (subI .u64 (subI .u64 (addI .u64 (addI .u64 (a 2) 67108863) 1) (b 2)) (subI .u64 1 (shrI .u64 (subI .u64 (subI .u64 (addI .u64 (addI .u64 (a 1) 67108863) 1) (b 1)) (subI .u64 1 (shrI .u64 (subI .u64 (subI .u64 (addI .u64 (addI .u64 (a 0) 67108863) 1) (b 0)) 0) 26))) 26))) 67108863), (andI .u64 (subI .u64 (subI .u64 (addI .u64 (addI .u64 (a 3) 67108863) 1) (b 3)) (subI .u64 1 (shrI .u64 (subI .u64 (subI .u64 (addI .u64 (addI .u64 (a 2) 67108863) 1) (b 2)) (subI .u64 1 (shrI .u64 (subI .u64 (subI .u64 (addI .u64 (addI .u64 (a 1) 67108863) 1) (b 1)) (subI .u64 1 (shrI .u64 (subI .u64 (subI .u64 (addI .u64 (addI .u64 (a 0) 67108863) 1) (b 0)) 0) 26))) 26))) 26))) 67108863), (andI .u64 (subI .u64 (subI .u64 (addI .u64 (addI .u64 (a 4) 67108863) 1) (b 4)) (subI .u64 1 (shrI .u64 (subI .u64 (subI .u64 (addI .u64 (addI .u64 (a 3) 67108863) 1) (b 3)) (subI .u64 1 (shrI .u64 (subI .u64 (subI .u64 (addI .u64 (addI .u64 (a 2) 67108863) 1) (b 2)) (subI .u64 1 (shrI .u64 (subI .u64 (subI .u64 (addI .u64 (addI .u64 (a 1) 67108863) 1) (b 1)) (subI .u64 1 (shrI .u64 (subI .u64 (subI .u64 (addI .u64 (addI .u64 (a 0) 67108863) 1) (b 0)) 0) 26))) 26))) 26))) 26))) 67108863), (andI .u64 (subI .u64 (subI .u64 (addI .u64 (addI .u64 (a 5) 67108863) 1) (b 5)) (subI .u64 1 (shrI .u64 (subI .u64 (subI .u64 (addI .u64 (addI .u64 (a 4) 67108863) 1) (b 4)) (subI .u64 1 (shrI .u64 (subI .u64 (subI .u64 (addI .u64 (addI .u64 (a 3) 67108863) 1) (b 3)) (subI .u64 1 (shrI .u64 (subI .u64 (subI .u64 (addI .u64 (addI .u64 (a 2) 67108863) 1) (b 2)) (subI .u64 1 (shrI .u64 (subI .u64 (subI .u64 (addI .u64 (addI .u64 (a 1) 67108863) 1) (b 1)) (subI .u64 1 (shrI .u64 (subI .u64 (subI .u64 (addI .u64 (addI .u64 (a 0) 67108863) 1) (b 0)) 0) 26))) 26))) 26))) 26))) 26))) 67108863), (andI .u64 (subI .u64 (subI .u64 (addI .u64 (addI .u64 (a 6) 67108863) 1) (b 6)) (subI .u64 1 (shrI .u64 (subI .u64 (subI .u64 (addI .u64 (addI .u64 (a 5) 67108863) 1) (b 5)) (subI .u64 1 (shrI .u64 (subI .u64 (subI .u64 (addI .u64 (addI .u64 (a 4) 67108863) 1) (b 4)) (subI .u64 1 (shrI .u64 (subI .u64 (subI .u64 (addI .u64 (addI .u64 (a 3) 67108863) 1) (b 3)) (subI .u64 1 (shrI .u64 (subI .u64 (subI .u64 (addI .u64 (addI .u64 (a 2) 67108863) 1) (b 2)) (subI .u64 1 (shrI .u64 (subI .u64 (subI .u64 (addI .u64 (addI .u64 (a 1) 67108863) 1) (b 1)) (subI .u64 1 (shrI .u64 (subI .u64 (subI .u64 (addI .u64 (addI .u64 (a 0) 67108863) 1) (b 0)) 0) 26))) 26))) 26))) 26))) 26))) 26))) 67108863), (andI .u64 (subI .u64 (subI .u64 (addI .u64 (addI .u64 (a 7) 67108863) 1) (b 7)) (subI .u64 1 (shrI .u64 (subI .u64 (subI .u64 (addI .u64 (addI .u64 (a 6) 67108863) 1) (b 6)) (subI .u64 1 (shrI .u64 (subI .u64 (subI .u64 (addI .u64 (addI .u64 (a 5) 67108863) 1) (b 5)) (subI .u64 1 (shrI .u64 (subI .u64 (subI .u64 (addI .u64 (addI .u64 (a 4) 67108863) 1) (b 4)) (subI .u64 1 (shrI .u64 (subI .u64 (subI .u64 (addI .u64 (addI .u64 (a 3) 67108863) 1) (b 3)) (subI .u64 1 (shrI .u64 (subI .u64 (subI .u64 (addI .u64 (addI .u64 (a 2) 67108863) 1) (b 2)) (subI .u64 1 (shrI .u64 (subI .u64 (subI .u64 (addI .u64 (addI .u64 (a 1) 67108863) 1) (b 1)) (subI .u64 1 (shrI .u64 (subI .u64 (subI .u64 (addI .u64 (addI .u64 (a 0) 67108863) 1) (b 0)) 0) 26))) 26))) 26))) 26))) 26))) 26))) 26))) 67108863), (andI .u64 (subI .u64 (subI .u64 (addI .u64 (addI .u64 (a 8) 67108863) 1) (b 8)) (subI .u64 1 (shrI .u64 (subI .u64 (subI .u64 (addI .u64 (addI .u64 (a 7) 67108863) 1) (b 7)) (subI .u64 1 (shrI .u64 (subI .u64 (subI .u64 (addI .u64 (addI .u64 (a 6) 67108863) 1) (b 6)) (subI .u64 1 (shrI .u64 (subI .u64 (subI .u64 (addI .u64 (addI .u64 (a 5) 67108863) 1) (b 5)) (subI .u64 1 (shrI .u64 (subI .u64 (subI .u64 (addI .u64 (addI .u64 (a 4) 67108863) 1) (b 4)) (subI .u64 1 (shrI .u64 (subI .u64 (subI .u64 (addI .u64 (addI .u64 (a 3) 67108863) 1) (b 3)) (subI .u64 1 (shrI .u64 (subI .u64 (subI .u64 (addI .u64 (addI .u64 (a 2) 67108863) 1) (b 2)) (subI .u64 1 (shrI .u64 (subI .u64 (subI .u64 (addI .u64 (addI .u64 (a 1) 67108863) 1) (b 1)) (subI .u64 1 (shrI .u64 (subI .u64 (subI .u64 (addI .u64 (addI .u64 (a 0) 67108863) 1) (b 0)) 0) 26))) 26))) 26))) 26))) 26))) 26))) 26))) 26))) 67108863), (andI .u64 (subI .u64 (subI .u64 (addI .u64 (addI .u64 (a 9) 67108863) 1) (b 9)) (subI .u64 1 (shrI .u64 (subI .u64 (subI .u64 (addI .u64 (addI .u64 (a 8) 67108863) 1) (b 8)) (subI .u64 1 (shrI .u64 (subI .u64 (subI .u64 (addI .u64 (addI .u64 (a 7) 67108863) 1) (b 7)) (subI .u64 1 (shrI .u64 (subI .u64 (subI .u64 (addI .u64 (addI .u64 (a 6) 67108863) 1) (b 6)) (subI .u64 1 (shrI .u64 (subI .u64 (subI .u64 (addI .u64 (addI .u64 (a 5) 67108863) 1) (b 5)) (subI .u64 1 (shrI .u64 (subI .u64 (subI .u64 (addI .u64 (addI .u64 (a 4) 67108863) 1) (b 4)) (subI .u64 1 (shrI .u64 (subI .u64 (subI .u64 (addI .u64 (addI .u64 (a 3) 67108863) 1) (b 3)) (subI .u64 1 (shrI .u64 (subI .u64 (subI .u64 (addI .u64 (addI .u64 (a 2) 67108863) 1) (b 2)) (subI .u64 1 (shrI .u64 (subI .u64 (subI .u64 (addI .u64 (addI .u64 (a 1) 67108863) 1) (b 1)) (subI .u64 1 (shrI .u64 (subI .u64 (subI .u64 (addI .u64 (addI .u64 (a 0) 67108863) 1) (b 0)) 0) 26))) 26))) 26))) 26))) 26))) 26))) 26))) 26))) 26))) 67108863)])
theorem rLess_t (a : (Nat → Int)) (b : (Nat → Int)) : awp Try.prog o117 noG 300 (body Try.f86) (ends Try.prog Try.f86 fun v _ => okV (V.ints .u64 10 (rLess a b)) v) ⟨[(V.ints .u64 10 a), (V.ints .u64 10 b)] ++ List.replicate 29 V.un, []⟩ = ((V.ints .u64 10 (rLess a b)).den z0 = (V.ints .u64 10 (rLess a b)).den z0) := by kernel_rfl
theorem rLess_a (a : (Nat → Int)) (b : (Nat → Int)) : awp Try.prog o117 noG 300 (body Try.f86) (ends Try.prog Try.f86 fun v _ => okV (V.ints .u64 10 (rLess a b)) v) ⟨[(V.ints .u64 10 a), (V.ints .u64 10 b)] ++ List.replicate 29 V.un, []⟩ := by rw [rLess_t]
def g86 : List V → Option (Bool × V) := fun | [.ints .u64 10 a, .ints .u64 10 b] => some (true, (V.ints .u64 10 (rLess a b))) | _ => none
theorem rLess_p (a : (Nat → Int)) (b : (Nat → Int)) : (∀ μ μ', V.den μ' (V.ints .u64 10 (rLess a b)) = V.den μ (V.ints .u64 10 (rLess a b))) ∧ ∀ μ w, PureAt Try.prog 86 (([(V.ints .u64 10 a), (V.ints .u64 10 b)] : List V).map (V.den μ)).toArray (V.den μ (V.ints .u64 10 (rLess a b))) w :=
  pure_ok (F := o117) (N := 300) (fn := Try.f86) (args := [(V.ints .u64 10 a), (V.ints .u64 10 b)]) (r := (V.ints .u64 10 (rLess a b))) (n := 29) hM o117_ok (noG_ok _) Try.func86 (by kernel_rfl) (by kernel_rfl) (by kernel_rfl) (by kernel_rfl) (rLess_a a b) (by kernel_rfl)
theorem g86_ok (vs : List V) (v : V) (h : g86 vs = some (true, v)) : (∀ μ μ', v.den μ' = v.den μ) ∧ ∀ μ w, PureAt Try.prog 86 (vs.map (V.den μ)).toArray (v.den μ) w := by
  unfold g86 at h
  split at h
  · simp only [Option.some.injEq, Prod.mk.injEq, true_and] at h
    subst h
    exact rLess_p _ _
  · simp at h
def o86 : Orc := ext 86 g86 o117
theorem o86_ok : OrcOK Try.prog o86 := ext_ok o117_ok g86_ok

/- fareboxref05.prime -/
def rPrime : (Nat → Int) := (L [67108845, 67108863, 67108863, 67108863, 67108863, 67108863, 67108863, 67108863, 67108863, 2097151])
theorem rPrime_t : awp Try.prog o86 noG 300 (body Try.f87) (ends Try.prog Try.f87 fun v _ => okV (V.ints .u64 10 rPrime) v) ⟨[] ++ List.replicate 2 V.un, []⟩ = ((V.ints .u64 10 rPrime).den z0 = (V.ints .u64 10 rPrime).den z0) := by kernel_rfl
theorem rPrime_a : awp Try.prog o86 noG 300 (body Try.f87) (ends Try.prog Try.f87 fun v _ => okV (V.ints .u64 10 rPrime) v) ⟨[] ++ List.replicate 2 V.un, []⟩ := by rw [rPrime_t]
def g87 : List V → Option (Bool × V) := fun | [] => some (true, (V.ints .u64 10 rPrime)) | _ => none
theorem rPrime_p : (∀ μ μ', V.den μ' (V.ints .u64 10 rPrime) = V.den μ (V.ints .u64 10 rPrime)) ∧ ∀ μ w, PureAt Try.prog 87 (([] : List V).map (V.den μ)).toArray (V.den μ (V.ints .u64 10 rPrime)) w :=
  pure_ok (F := o86) (N := 300) (fn := Try.f87) (args := []) (r := (V.ints .u64 10 rPrime)) (n := 2) hM o86_ok (noG_ok _) Try.func87 (by kernel_rfl) (by kernel_rfl) (by kernel_rfl) (by kernel_rfl) (rPrime_a) (by kernel_rfl)
theorem g87_ok (vs : List V) (v : V) (h : g87 vs = some (true, v)) : (∀ μ μ', v.den μ' = v.den μ) ∧ ∀ μ w, PureAt Try.prog 87 (vs.map (V.den μ)).toArray (v.den μ) w := by
  unfold g87 at h
  split at h
  · simp only [Option.some.injEq, Prod.mk.injEq, true_and] at h
    subst h
    exact rPrime_p
  · simp at h
def o87 : Orc := ext 87 g87 o86
theorem o87_ok : OrcOK Try.prog o87 := ext_ok o86_ok g87_ok

/- fareboxref05.below -/
def rBelow (a : (Nat → Int)) (b : (Nat → Int)) : Bool := (cond ((a 9) != (b 9)) (decide ((a 9) < (b 9))) (cond ((a 8) != (b 8)) (decide ((a 8) < (b 8))) (cond ((a 7) != (b 7)) (decide ((a 7) < (b 7))) (cond ((a 6) != (b 6)) (decide ((a 6) < (b 6))) (cond ((a 5) != (b 5)) (decide ((a 5) < (b 5))) (cond ((a 4) != (b 4)) (decide ((a 4) < (b 4))) (cond ((a 3) != (b 3)) (decide ((a 3) < (b 3))) (cond ((a 2) != (b 2)) (decide ((a 2) < (b 2))) (cond ((a 1) != (b 1)) (decide ((a 1) < (b 1))) (cond ((a 0) != (b 0)) (decide ((a 0) < (b 0))) false))))))))))
theorem rBelow_t (a : (Nat → Int)) (b : (Nat → Int)) : awp Try.prog o87 noG 300 (body Try.f118) (ends Try.prog Try.f118 fun v _ => okV (V.bool (rBelow a b)) v) ⟨[(V.ints .u64 10 a), (V.ints .u64 10 b)] ++ List.replicate 22 V.un, []⟩ = (mB ((a 9) != (b 9)) ((V.bool (decide ((a 9) < (b 9)))).den z0 = (V.bool (rBelow a b)).den z0) (mB ((a 8) != (b 8)) ((V.bool (decide ((a 8) < (b 8)))).den z0 = (V.bool (rBelow a b)).den z0) (mB ((a 7) != (b 7)) ((V.bool (decide ((a 7) < (b 7)))).den z0 = (V.bool (rBelow a b)).den z0) (mB ((a 6) != (b 6)) ((V.bool (decide ((a 6) < (b 6)))).den z0 = (V.bool (rBelow a b)).den z0) (mB ((a 5) != (b 5)) ((V.bool (decide ((a 5) < (b 5)))).den z0 = (V.bool (rBelow a b)).den z0) (mB ((a 4) != (b 4)) ((V.bool (decide ((a 4) < (b 4)))).den z0 = (V.bool (rBelow a b)).den z0) (mB ((a 3) != (b 3)) ((V.bool (decide ((a 3) < (b 3)))).den z0 = (V.bool (rBelow a b)).den z0) (mB ((a 2) != (b 2)) ((V.bool (decide ((a 2) < (b 2)))).den z0 = (V.bool (rBelow a b)).den z0) (mB ((a 1) != (b 1)) ((V.bool (decide ((a 1) < (b 1)))).den z0 = (V.bool (rBelow a b)).den z0) (mB ((a 0) != (b 0)) ((V.bool (decide ((a 0) < (b 0)))).den z0 = (V.bool (rBelow a b)).den z0) ((V.bool false).den z0 = (V.bool (rBelow a b)).den z0))))))))))) := by kernel_rfl
theorem rBelow_a (a : (Nat → Int)) (b : (Nat → Int)) : awp Try.prog o87 noG 300 (body Try.f118) (ends Try.prog Try.f118 fun v _ => okV (V.bool (rBelow a b)) v) ⟨[(V.ints .u64 10 a), (V.ints .u64 10 b)] ++ List.replicate 22 V.un, []⟩ := by
  rw [rBelow_t]
  refine mBt (fun h1 => ?_) (fun h1 => ?_)
  · simp only [rBelow, h1, cond_true]
  · refine mBt (fun h2 => ?_) (fun h2 => ?_)
    · simp only [rBelow, h1, h2, cond_true, cond_false]
    · refine mBt (fun h3 => ?_) (fun h3 => ?_)
      · simp only [rBelow, h1, h2, h3, cond_true, cond_false]
      · refine mBt (fun h4 => ?_) (fun h4 => ?_)
        · simp only [rBelow, h1, h2, h3, h4, cond_true, cond_false]
        · refine mBt (fun h5 => ?_) (fun h5 => ?_)
          · simp only [rBelow, h1, h2, h3, h4, h5, cond_true, cond_false]
          · refine mBt (fun h6 => ?_) (fun h6 => ?_)
            · simp only [rBelow, h1, h2, h3, h4, h5, h6, cond_true, cond_false]
            · refine mBt (fun h7 => ?_) (fun h7 => ?_)
              · simp only [rBelow, h1, h2, h3, h4, h5, h6, h7, cond_true, cond_false]
              · refine mBt (fun h8 => ?_) (fun h8 => ?_)
                · simp only [rBelow, h1, h2, h3, h4, h5, h6, h7, h8, cond_true, cond_false]
                · refine mBt (fun h9 => ?_) (fun h9 => ?_)
                  · simp only [rBelow, h1, h2, h3, h4, h5, h6, h7, h8, h9, cond_true, cond_false]
                  · refine mBt (fun h10 => ?_) (fun h10 => ?_)
                    · simp only [rBelow, h1, h2, h3, h4, h5, h6, h7, h8, h9, h10, cond_true, cond_false]
                    · simp only [rBelow, h1, h2, h3, h4, h5, h6, h7, h8, h9, h10, cond_false]
def g118 : List V → Option (Bool × V) := fun | [.ints .u64 10 a, .ints .u64 10 b] => some (true, (V.bool (rBelow a b))) | _ => none
theorem rBelow_p (a : (Nat → Int)) (b : (Nat → Int)) : (∀ μ μ', V.den μ' (V.bool (rBelow a b)) = V.den μ (V.bool (rBelow a b))) ∧ ∀ μ w, PureAt Try.prog 118 (([(V.ints .u64 10 a), (V.ints .u64 10 b)] : List V).map (V.den μ)).toArray (V.den μ (V.bool (rBelow a b))) w :=
  pure_ok (F := o87) (N := 300) (fn := Try.f118) (args := [(V.ints .u64 10 a), (V.ints .u64 10 b)]) (r := (V.bool (rBelow a b))) (n := 22) hM o87_ok (noG_ok _) Try.func118 (by kernel_rfl) (by kernel_rfl) (by kernel_rfl) (by kernel_rfl) (rBelow_a a b) (by kernel_rfl)
theorem g118_ok (vs : List V) (v : V) (h : g118 vs = some (true, v)) : (∀ μ μ', v.den μ' = v.den μ) ∧ ∀ μ w, PureAt Try.prog 118 (vs.map (V.den μ)).toArray (v.den μ) w := by
  unfold g118 at h
  split at h
  · simp only [Option.some.injEq, Prod.mk.injEq, true_and] at h
    subst h
    exact rBelow_p _ _
  · simp at h
def o118 : Orc := ext 118 g118 o87
theorem o118_ok : OrcOK Try.prog o118 := ext_ok o87_ok g118_ok

/- fareboxref05.IsZero -/
def rIsZero (a : (Nat → Int)) : Bool := (eqN 10 a (fun _ => 0))
theorem rIsZero_t (a : (Nat → Int)) : awp Try.prog o118 noG 300 (body Try.f24) (ends Try.prog Try.f24 fun v _ => okV (V.bool (rIsZero a)) v) ⟨[(V.ints .u64 10 a)] ++ List.replicate 5 V.un, []⟩ = ((V.bool (rIsZero a)).den z0 = (V.bool (rIsZero a)).den z0) := by kernel_rfl
theorem rIsZero_a (a : (Nat → Int)) : awp Try.prog o118 noG 300 (body Try.f24) (ends Try.prog Try.f24 fun v _ => okV (V.bool (rIsZero a)) v) ⟨[(V.ints .u64 10 a)] ++ List.replicate 5 V.un, []⟩ := by rw [rIsZero_t]
def g24 : List V → Option (Bool × V) := fun | [.ints .u64 10 a] => some (true, (V.bool (rIsZero a))) | _ => none
theorem rIsZero_p (a : (Nat → Int)) : (∀ μ μ', V.den μ' (V.bool (rIsZero a)) = V.den μ (V.bool (rIsZero a))) ∧ ∀ μ w, PureAt Try.prog 24 (([(V.ints .u64 10 a)] : List V).map (V.den μ)).toArray (V.den μ (V.bool (rIsZero a))) w :=
  pure_ok (F := o118) (N := 300) (fn := Try.f24) (args := [(V.ints .u64 10 a)]) (r := (V.bool (rIsZero a))) (n := 5) hM o118_ok (noG_ok _) Try.func24 (by kernel_rfl) (by kernel_rfl) (by kernel_rfl) (by kernel_rfl) (rIsZero_a a) (by kernel_rfl)
theorem g24_ok (vs : List V) (v : V) (h : g24 vs = some (true, v)) : (∀ μ μ', v.den μ' = v.den μ) ∧ ∀ μ w, PureAt Try.prog 24 (vs.map (V.den μ)).toArray (v.den μ) w := by
  unfold g24 at h
  split at h
  · simp only [Option.some.injEq, Prod.mk.injEq, true_and] at h
    subst h
    exact rIsZero_p _
  · simp at h
def o24 : Orc := ext 24 g24 o118
theorem o24_ok : OrcOK Try.prog o24 := ext_ok o118_ok g24_ok

/- fareboxref05.IsOdd -/
def rIsOdd (a : (Nat → Int)) : Bool := ((andI .u64 (a 0) 1) == 1)
theorem rIsOdd_t (a : (Nat → Int)) : awp Try.prog o24 noG 300 (body Try.f26) (ends Try.prog Try.f26 fun v _ => okV (V.bool (rIsOdd a)) v) ⟨[(V.ints .u64 10 a)] ++ List.replicate 6 V.un, []⟩ = ((V.bool (rIsOdd a)).den z0 = (V.bool (rIsOdd a)).den z0) := by kernel_rfl
theorem rIsOdd_a (a : (Nat → Int)) : awp Try.prog o24 noG 300 (body Try.f26) (ends Try.prog Try.f26 fun v _ => okV (V.bool (rIsOdd a)) v) ⟨[(V.ints .u64 10 a)] ++ List.replicate 6 V.un, []⟩ := by rw [rIsOdd_t]
def g26 : List V → Option (Bool × V) := fun | [.ints .u64 10 a] => some (true, (V.bool (rIsOdd a))) | _ => none
theorem rIsOdd_p (a : (Nat → Int)) : (∀ μ μ', V.den μ' (V.bool (rIsOdd a)) = V.den μ (V.bool (rIsOdd a))) ∧ ∀ μ w, PureAt Try.prog 26 (([(V.ints .u64 10 a)] : List V).map (V.den μ)).toArray (V.den μ (V.bool (rIsOdd a))) w :=
  pure_ok (F := o24) (N := 300) (fn := Try.f26) (args := [(V.ints .u64 10 a)]) (r := (V.bool (rIsOdd a))) (n := 6) hM o24_ok (noG_ok _) Try.func26 (by kernel_rfl) (by kernel_rfl) (by kernel_rfl) (by kernel_rfl) (rIsOdd_a a) (by kernel_rfl)
theorem g26_ok (vs : List V) (v : V) (h : g26 vs = some (true, v)) : (∀ μ μ', v.den μ' = v.den μ) ∧ ∀ μ w, PureAt Try.prog 26 (vs.map (V.den μ)).toArray (v.den μ) w := by
  unfold g26 at h
  split at h
  · simp only [Option.some.injEq, Prod.mk.injEq, true_and] at h
    subst h
    exact rIsOdd_p _
  · simp at h
def o26 : Orc := ext 26 g26 o24
theorem o26_ok : OrcOK Try.prog o26 := ext_ok o24_ok g26_ok

theorem rLeast_h (x : (Nat → Int)) (K : V → List V → Prop) : awp Try.prog o26 noG 300 (body Try.f85) (ends Try.prog Try.f85 K) ⟨[(V.ints .u64 10 x)] ++ List.replicate 31 V.un, []⟩ = lp (awp Try.prog o26 noG 300 (loopOf (body Try.f85))) (spineQ Try.prog o26 noG 300 (body Try.f85) (ends Try.prog Try.f85 K)) 300 ⟨[(V.ints .u64 10 x), (V.ptr 0 0), (V.ptr 1 0), V.un, (V.ints .u64 10 x), (V.ints .u64 10 (rCarried x)), V.un, V.un, V.un, V.un, V.un, V.un, V.un, V.un, V.un, V.un, V.un, V.un, V.un, V.un, V.un, V.un, V.un, V.un, V.un, V.un, V.un, V.un, V.un, V.un, V.un, V.un], [(V.ints .u64 10 (rCarried x)), (V.ints .u64 10 (fun _ => 0))]⟩ := by kernel_rfl
theorem rLeast_s (x : (Nat → Int)) (a : Nat → Int) (t6 t7 t8 t9 t10 t11 t12 t13 t14 t15 t16 t17 t18 t19 t20 t21 t22 : V) (Q : Exit → St → Prop) (n : Nat) : lp (awp Try.prog o26 noG 300 (loopOf (body Try.f85))) Q (n + 1) ⟨[(V.ints .u64 10 x), (V.ptr 0 0), (V.ptr 1 0), V.un, (V.ints .u64 10 x), (V.ints .u64 10 (rCarried x)), t6, t7, t8, t9, t10, t11, t12, t13, t14, t15, t16, t17, t18, t19, t20, t21, t22, V.un, V.un, V.un, V.un, V.un, V.un, V.un, V.un, V.un], [(V.ints .u64 10 a), (V.ints .u64 10 (fun _ => 0))]⟩ = (mB (decide ((a 9) > 2097151)) (lp (awp Try.prog o26 noG 300 (loopOf (body Try.f85))) Q n ⟨[(V.ints .u64 10 x), (V.ptr 0 0), (V.ptr 1 0), V.un, (V.ints .u64 10 x), (V.ints .u64 10 (rCarried x)), (V.ptr 0 9), (V.int .u64 (a 9)), (V.bool (decide ((a 9) > 2097151))), (V.ptr 0 0), (V.int .u64 (a 0)), (V.ptr 0 9), (V.int .u64 (a 9)), (V.int .u64 (shrI .u64 (a 9) 21)), (V.int .u64 (mulI .u64 19 (shrI .u64 (a 9) 21))), (V.int .u64 (addI .u64 (a 0) (mulI .u64 19 (shrI .u64 (a 9) 21)))), (V.ptr 0 0), (V.ptr 0 9), (V.int .u64 (a 9)), (V.int .u64 (andI .u64 (a 9) 2097151)), (V.ptr 0 9), (V.ints .u64 10 (up 9 (andI .u64 (a 9) 2097151) (up 0 (addI .u64 (a 0) (mulI .u64 19 (shrI .u64 (a 9) 21))) a))), (V.ints .u64 10 (rCarried (up 9 (andI .u64 (a 9) 2097151) (up 0 (addI .u64 (a 0) (mulI .u64 19 (shrI .u64 (a 9) 21))) a)))), V.un, V.un, V.un, V.un, V.un, V.un, V.un, V.un, V.un], [(V.ints .u64 10 (rCarried (up 9 (andI .u64 (a 9) 2097151) (up 0 (addI .u64 (a 0) (mulI .u64 19 (shrI .u64 (a 9) 21))) a)))), (V.ints .u64 10 (fun _ => 0))]⟩) (Q (.exit 0) ⟨[(V.ints .u64 10 x), (V.ptr 0 0), (V.ptr 1 0), V.un, (V.ints .u64 10 x), (V.ints .u64 10 (rCarried x)), (V.ptr 0 9), (V.int .u64 (a 9)), (V.bool (decide ((a 9) > 2097151))), t9, t10, t11, t12, t13, t14, t15, t16, t17, t18, t19, t20, t21, t22, V.un, V.un, V.un, V.un, V.un, V.un, V.un, V.un, V.un], [(V.ints .u64 10 a), (V.ints .u64 10 (fun _ => 0))]⟩)) := by kernel_rfl
theorem rLeast_x (x : (Nat → Int)) (a : Nat → Int) (t6 t7 t8 t9 t10 t11 t12 t13 t14 t15 t16 t17 t18 t19 t20 t21 t22 : V) (R : V) : spineQ Try.prog o26 noG 300 (body Try.f85) (ends Try.prog Try.f85 fun v _ => okV R v) (.exit 0) ⟨[(V.ints .u64 10 x), (V.ptr 0 0), (V.ptr 1 0), V.un, (V.ints .u64 10 x), (V.ints .u64 10 (rCarried x)), t6, t7, t8, t9, t10, t11, t12, t13, t14, t15, t16, t17, t18, t19, t20, t21, t22, V.un, V.un, V.un, V.un, V.un, V.un, V.un, V.un, V.un], [(V.ints .u64 10 a), (V.ints .u64 10 (fun _ => 0))]⟩ = (mB (!(rBelow a rPrime)) (okV R (V.ints .u64 10 (rLess a rPrime))) (okV R (V.ints .u64 10 a))) := by kernel_rfl
end Go.Proofs.Ytbnclikjbnfodaa
