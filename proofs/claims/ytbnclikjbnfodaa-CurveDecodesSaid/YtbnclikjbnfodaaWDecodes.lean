import Derived.Test.YtbnclikjbnfodaaZ19
import Derived.Test.YtbnclikjbnfodaaRows
namespace Go.Proofs.Ytbnclikjbnfodaa
open Go.Ev
/- fareboxlaw07.CurveDecodes -/
noncomputable def lawDecodes (b : (Nat → Int)) : Bool := (cond (!((decodePO b).2 == (rDecodePO b).2)) false (cond (!(decodePO b).2) (eqN 20 (decodePO b).1 (fun _ => 0)) (cond (isPO (decodePO b).1 (rDecodePO b).1) (eqN 32 (encodePO (decodePO b).1) b) false)))
theorem lawDecodes_t (b : (Nat → Int)) : awp Try.prog o56O noG 300 (body Try.f13) (ends Try.prog Try.f13 fun v _ => okV (V.bool (lawDecodes b)) v) ⟨[(V.ints .u8 32 b)] ++ List.replicate 33 V.un, []⟩ = (mB (!((decodePO b).2 == (rDecodePO b).2)) ((V.bool false).den z0 = (V.bool (lawDecodes b)).den z0) (mB (!(decodePO b).2) ((V.bool (eqN 20 (decodePO b).1 (fun _ => 0))).den z0 = (V.bool (lawDecodes b)).den z0) (mB (isPO (decodePO b).1 (rDecodePO b).1) ((V.bool (eqN 32 (encodePO (decodePO b).1) b)).den z0 = (V.bool (lawDecodes b)).den z0) ((V.bool false).den z0 = (V.bool (lawDecodes b)).den z0)))) := by kernel_rfl
theorem lawDecodes_a (b : (Nat → Int)) : awp Try.prog o56O noG 300 (body Try.f13) (ends Try.prog Try.f13 fun v _ => okV (V.bool (lawDecodes b)) v) ⟨[(V.ints .u8 32 b)] ++ List.replicate 33 V.un, []⟩ := by
  rw [lawDecodes_t]
  refine mBt (fun h1 => ?_) (fun h1 => ?_)
  · simp only [lawDecodes, h1, cond_true]
  · refine mBt (fun h2 => ?_) (fun h2 => ?_)
    · simp only [lawDecodes, h1, h2, cond_true, cond_false]
    · refine mBt (fun h3 => ?_) (fun h3 => ?_)
      · simp only [lawDecodes, h1, h2, h3, cond_true, cond_false]
      · simp only [lawDecodes, h1, h2, h3, cond_false]
noncomputable def g13 : List V → Option (Bool × V) := fun | [.ints .u8 32 b] => some (true, (V.bool (lawDecodes b))) | _ => none
theorem lawDecodes_p (b : (Nat → Int)) : (∀ μ μ', V.den μ' (V.bool (lawDecodes b)) = V.den μ (V.bool (lawDecodes b))) ∧ ∀ μ w, PureAt Try.prog 13 (([(V.ints .u8 32 b)] : List V).map (V.den μ)).toArray (V.den μ (V.bool (lawDecodes b))) w :=
  pure_ok (F := o56O) (N := 300) (fn := Try.f13) (args := [(V.ints .u8 32 b)]) (r := (V.bool (lawDecodes b))) (n := 33) hM o56O_ok (noG_ok _) Try.func13 (by kernel_rfl) (by kernel_rfl) (by kernel_rfl) (by kernel_rfl) (lawDecodes_a b) (by kernel_rfl)
theorem g13_ok (vs : List V) (v : V) (h : g13 vs = some (true, v)) : (∀ μ μ', v.den μ' = v.den μ) ∧ ∀ μ w, PureAt Try.prog 13 (vs.map (V.den μ)).toArray (v.den μ) w := by
  unfold g13 at h
  split at h
  · simp only [Option.some.injEq, Prod.mk.injEq, true_and] at h
    subst h
    exact lawDecodes_p _
  · simp at h
noncomputable def o13 : Orc := ext 13 g13 o56O
theorem o13_ok : OrcOK Try.prog o13 := ext_ok o56O_ok g13_ok
end Go.Proofs.Ytbnclikjbnfodaa
