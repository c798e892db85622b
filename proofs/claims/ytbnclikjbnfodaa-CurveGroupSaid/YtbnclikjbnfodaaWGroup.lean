import Derived.Test.YtbnclikjbnfodaaZ19
import Derived.Test.YtbnclikjbnfodaaRows
namespace Go.Proofs.Ytbnclikjbnfodaa
open Go.Ev
/- fareboxlaw07.CurveGroup -/
noncomputable def lawGroup (a : (Nat → Int)) (b : (Nat → Int)) (c : (Nat → Int)) : Bool := (cond (!livesO) false (cond (!(equalPO (addPO (addPO (pointPO a) (pointPO b)) (pointPO c)) (addPO (pointPO a) (addPO (pointPO c) (pointPO b))))) false (cond (!(eqN 32 (encodePO (addPO (addPO (pointPO a) (pointPO b)) (pointPO c))) (encodePO (addPO (pointPO a) (addPO (pointPO c) (pointPO b)))))) false (cond (!(onPO (addPO (addPO (pointPO a) (pointPO b)) (pointPO c)))) false (cond (!(equalPO (addPO (pointPO a) zeroPO) (pointPO a))) false (cond (!(equalPO (addPO (pointPO a) (negPO (pointPO a))) zeroPO)) false (cond (!(equalPO (doublePO (pointPO a)) (addPO (pointPO a) (pointPO a)))) false ((equalPO (pointPO a) (pointPO b)) == (eqN 32 (encodePO (pointPO a)) (encodePO (pointPO b)))))))))))
theorem lawGroup_t (a : (Nat → Int)) (b : (Nat → Int)) (c : (Nat → Int)) : awp Try.prog o71O noG 300 (body Try.f17) (ends Try.prog Try.f17 fun v _ => okV (V.bool (lawGroup a b c)) v) ⟨[(V.ints .u8 32 a), (V.ints .u8 32 b), (V.ints .u8 32 c)] ++ List.replicate 76 V.un, []⟩ = (mB (!livesO) ((V.bool false).den z0 = (V.bool (lawGroup a b c)).den z0) (mB (!(equalPO (addPO (addPO (pointPO a) (pointPO b)) (pointPO c)) (addPO (pointPO a) (addPO (pointPO c) (pointPO b))))) ((V.bool false).den z0 = (V.bool (lawGroup a b c)).den z0) (mB (!(eqN 32 (encodePO (addPO (addPO (pointPO a) (pointPO b)) (pointPO c))) (encodePO (addPO (pointPO a) (addPO (pointPO c) (pointPO b)))))) ((V.bool false).den z0 = (V.bool (lawGroup a b c)).den z0) (mB (!(onPO (addPO (addPO (pointPO a) (pointPO b)) (pointPO c)))) ((V.bool false).den z0 = (V.bool (lawGroup a b c)).den z0) (mB (!(equalPO (addPO (pointPO a) zeroPO) (pointPO a))) ((V.bool false).den z0 = (V.bool (lawGroup a b c)).den z0) (mB (!(equalPO (addPO (pointPO a) (negPO (pointPO a))) zeroPO)) ((V.bool false).den z0 = (V.bool (lawGroup a b c)).den z0) (mB (!(equalPO (doublePO (pointPO a)) (addPO (pointPO a) (pointPO a)))) ((V.bool false).den z0 = (V.bool (lawGroup a b c)).den z0) ((V.bool ((equalPO (pointPO a) (pointPO b)) == (eqN 32 (encodePO (pointPO a)) (encodePO (pointPO b))))).den z0 = (V.bool (lawGroup a b c)).den z0)))))))) := by kernel_rfl
theorem lawGroup_a (a : (Nat → Int)) (b : (Nat → Int)) (c : (Nat → Int)) : awp Try.prog o71O noG 300 (body Try.f17) (ends Try.prog Try.f17 fun v _ => okV (V.bool (lawGroup a b c)) v) ⟨[(V.ints .u8 32 a), (V.ints .u8 32 b), (V.ints .u8 32 c)] ++ List.replicate 76 V.un, []⟩ := by
  rw [lawGroup_t]
  refine mBt (fun h1 => ?_) (fun h1 => ?_)
  · simp only [lawGroup, h1, cond_true]
  · refine mBt (fun h2 => ?_) (fun h2 => ?_)
    · simp only [lawGroup, h1, h2, cond_true, cond_false]
    · refine mBt (fun h3 => ?_) (fun h3 => ?_)
      · simp only [lawGroup, h1, h2, h3, cond_true, cond_false]
      · refine mBt (fun h4 => ?_) (fun h4 => ?_)
        · simp only [lawGroup, h1, h2, h3, h4, cond_true, cond_false]
        · refine mBt (fun h5 => ?_) (fun h5 => ?_)
          · simp only [lawGroup, h1, h2, h3, h4, h5, cond_true, cond_false]
          · refine mBt (fun h6 => ?_) (fun h6 => ?_)
            · simp only [lawGroup, h1, h2, h3, h4, h5, h6, cond_true, cond_false]
            · refine mBt (fun h7 => ?_) (fun h7 => ?_)
              · simp only [lawGroup, h1, h2, h3, h4, h5, h6, h7, cond_true, cond_false]
              · simp only [lawGroup, h1, h2, h3, h4, h5, h6, h7, cond_false]
noncomputable def g17 : List V → Option (Bool × V) := fun | [.ints .u8 32 a, .ints .u8 32 b, .ints .u8 32 c] => some (true, (V.bool (lawGroup a b c))) | _ => none
theorem lawGroup_p (a : (Nat → Int)) (b : (Nat → Int)) (c : (Nat → Int)) : (∀ μ μ', V.den μ' (V.bool (lawGroup a b c)) = V.den μ (V.bool (lawGroup a b c))) ∧ ∀ μ w, PureAt Try.prog 17 (([(V.ints .u8 32 a), (V.ints .u8 32 b), (V.ints .u8 32 c)] : List V).map (V.den μ)).toArray (V.den μ (V.bool (lawGroup a b c))) w :=
  pure_ok (F := o71O) (N := 300) (fn := Try.f17) (args := [(V.ints .u8 32 a), (V.ints .u8 32 b), (V.ints .u8 32 c)]) (r := (V.bool (lawGroup a b c))) (n := 76) hM o71O_ok (noG_ok _) Try.func17 (by kernel_rfl) (by kernel_rfl) (by kernel_rfl) (by kernel_rfl) (lawGroup_a a b c) (by kernel_rfl)
theorem g17_ok (vs : List V) (v : V) (h : g17 vs = some (true, v)) : (∀ μ μ', v.den μ' = v.den μ) ∧ ∀ μ w, PureAt Try.prog 17 (vs.map (V.den μ)).toArray (v.den μ) w := by
  unfold g17 at h
  split at h
  · simp only [Option.some.injEq, Prod.mk.injEq, true_and] at h
    subst h
    exact lawGroup_p _ _ _
  · simp at h
noncomputable def o17 : Orc := ext 17 g17 o71O
theorem o17_ok : OrcOK Try.prog o17 := ext_ok o71O_ok g17_ok
end Go.Proofs.Ytbnclikjbnfodaa
