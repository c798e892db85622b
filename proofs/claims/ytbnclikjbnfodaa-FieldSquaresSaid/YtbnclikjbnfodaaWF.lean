import Derived.Test.YtbnclikjbnfodaaWE
import Derived.Test.YtbnclikjbnfodaaRows
namespace Go.Proofs.Ytbnclikjbnfodaa
open Go.Ev
/- fareboxref05.Element -/
/-- A limb's bits, one by one. -/
def elemLimb (a : Nat → Int) (j : Nat) : Int := (List.range 51).foldl (fun acc i => addI .u64 acc (shlI .u64 (andI .u64 (shrI .u64 (a ((51 * j + i) / 26)) (((51 * j + i) % 26 : Nat) : Int)) 1) (i : Int))) 0
def rElement (a : Nat → Int) : Nat → Int := fun j => elemLimb a j
theorem rElement_t (a : (Nat → Int)) : awp Try.prog o44 noG 300 (body Try.f83) (ends Try.prog Try.f83 fun v _ => okV (V.ints .u64 5 (rElement a)) v) ⟨[(V.ints .u64 10 a)] ++ List.replicate 30 V.un, []⟩ = ((V.ints .u64 5 (rElement a)).den z0 = (V.ints .u64 5 (rElement a)).den z0) := by kernel_rfl
theorem rElement_a (a : (Nat → Int)) : awp Try.prog o44 noG 300 (body Try.f83) (ends Try.prog Try.f83 fun v _ => okV (V.ints .u64 5 (rElement a)) v) ⟨[(V.ints .u64 10 a)] ++ List.replicate 30 V.un, []⟩ := by rw [rElement_t]
def g83 : List V → Option (Bool × V) := fun | [.ints .u64 10 a] => some (true, (V.ints .u64 5 (rElement a))) | _ => none
theorem rElement_p (a : (Nat → Int)) : (∀ μ μ', V.den μ' (V.ints .u64 5 (rElement a)) = V.den μ (V.ints .u64 5 (rElement a))) ∧ ∀ μ w, PureAt Try.prog 83 (([(V.ints .u64 10 a)] : List V).map (V.den μ)).toArray (V.den μ (V.ints .u64 5 (rElement a))) w :=
  pure_ok (F := o44) (N := 300) (fn := Try.f83) (args := [(V.ints .u64 10 a)]) (r := (V.ints .u64 5 (rElement a))) (n := 30) hM o44_ok (noG_ok _) Try.func83 (by kernel_rfl) (by kernel_rfl) (by kernel_rfl) (by kernel_rfl) (rElement_a a) (by kernel_rfl)
theorem g83_ok (vs : List V) (v : V) (h : g83 vs = some (true, v)) : (∀ μ μ', v.den μ' = v.den μ) ∧ ∀ μ w, PureAt Try.prog 83 (vs.map (V.den μ)).toArray (v.den μ) w := by
  unfold g83 at h
  split at h
  · simp only [Option.some.injEq, Prod.mk.injEq, true_and] at h
    subst h
    exact rElement_p _
  · simp at h
def o83 : Orc := ext 83 g83 o44
theorem o83_ok : OrcOK Try.prog o83 := ext_ok o44_ok g83_ok
end Go.Proofs.Ytbnclikjbnfodaa
