import Derived.Test.YtbnclikjbnfodaaWJ
import Derived.Test.YtbnclikjbnfodaaRows
namespace Go.Proofs.Ytbnclikjbnfodaa
open Go.Ev
/- fareboxlaw05.FieldBytes -/
def lawBytes (b : (Nat → Int)) (x : (Nat → Int)) (n : Int) : Bool := (cond (!(isE (fromBytesF b) (rFromBytes b))) false (cond (!((canonicalF b) == (rCanonical b))) false (cond (eqN 32 (bytesF x) (rBytes (rOf x))) (isE (smallF n) (rSmall n)) false)))
theorem lawBytes_t (b : (Nat → Int)) (x : (Nat → Int)) (n : Int) : awp Try.prog o38 noG 300 (body Try.f5) (ends Try.prog Try.f5 fun v _ => okV (V.bool (lawBytes b x n)) v) ⟨[(V.ints .u8 32 b), (V.ints .u64 5 x), (V.int .u64 n)] ++ List.replicate 30 V.un, []⟩ = (mB (!(isE (fromBytesF b) (rFromBytes b))) ((V.bool false).den z0 = (V.bool (lawBytes b x n)).den z0) (mB (!((canonicalF b) == (rCanonical b))) ((V.bool false).den z0 = (V.bool (lawBytes b x n)).den z0) (mB (eqN 32 (bytesF x) (rBytes (rOf x))) ((V.bool (isE (smallF n) (rSmall n))).den z0 = (V.bool (lawBytes b x n)).den z0) ((V.bool false).den z0 = (V.bool (lawBytes b x n)).den z0)))) := by kernel_rfl
theorem lawBytes_a (b : (Nat → Int)) (x : (Nat → Int)) (n : Int) : awp Try.prog o38 noG 300 (body Try.f5) (ends Try.prog Try.f5 fun v _ => okV (V.bool (lawBytes b x n)) v) ⟨[(V.ints .u8 32 b), (V.ints .u64 5 x), (V.int .u64 n)] ++ List.replicate 30 V.un, []⟩ := by
  rw [lawBytes_t]
  refine mBt (fun h1 => ?_) (fun h1 => ?_)
  · simp only [lawBytes, h1, cond_true]
  · refine mBt (fun h2 => ?_) (fun h2 => ?_)
    · simp only [lawBytes, h1, h2, cond_true, cond_false]
    · refine mBt (fun h3 => ?_) (fun h3 => ?_)
      · simp only [lawBytes, h1, h2, h3, cond_true, cond_false]
      · simp only [lawBytes, h1, h2, h3, cond_false]
def g5 : List V → Option (Bool × V) := fun | [.ints .u8 32 b, .ints .u64 5 x, .int .u64 n] => some (true, (V.bool (lawBytes b x n))) | _ => none
theorem lawBytes_p (b : (Nat → Int)) (x : (Nat → Int)) (n : Int) : (∀ μ μ', V.den μ' (V.bool (lawBytes b x n)) = V.den μ (V.bool (lawBytes b x n))) ∧ ∀ μ w, PureAt Try.prog 5 (([(V.ints .u8 32 b), (V.ints .u64 5 x), (V.int .u64 n)] : List V).map (V.den μ)).toArray (V.den μ (V.bool (lawBytes b x n))) w :=
  pure_ok (F := o38) (N := 300) (fn := Try.f5) (args := [(V.ints .u8 32 b), (V.ints .u64 5 x), (V.int .u64 n)]) (r := (V.bool (lawBytes b x n))) (n := 30) hM o38_ok (noG_ok _) Try.func5 (by kernel_rfl) (by kernel_rfl) (by kernel_rfl) (by kernel_rfl) (lawBytes_a b x n) (by kernel_rfl)
theorem g5_ok (vs : List V) (v : V) (h : g5 vs = some (true, v)) : (∀ μ μ', v.den μ' = v.den μ) ∧ ∀ μ w, PureAt Try.prog 5 (vs.map (V.den μ)).toArray (v.den μ) w := by
  unfold g5 at h
  split at h
  · simp only [Option.some.injEq, Prod.mk.injEq, true_and] at h
    subst h
    exact lawBytes_p _ _ _
  · simp at h
def o5 : Orc := ext 5 g5 o38
theorem o5_ok : OrcOK Try.prog o5 := ext_ok o38_ok g5_ok
end Go.Proofs.Ytbnclikjbnfodaa
