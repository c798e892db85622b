/-
  ScalarReduces, ScalarSums: the laws' answers. Conditions: none.
-/
import Derived.Test.YtnoehjibponofaaDoorSI
namespace Go.Proofs.YtnoehjibponofaaDoor
open Go.Ev Go.Num
noncomputable def d20 : Orc := ext 20 g20 p13
theorem d20_ok : OrcOK Tryd.prog d20 := ext_ok p13_ok g20_ok
noncomputable def d18 : Orc := ext 18 g18 d20
theorem d18_ok : OrcOK Tryd.prog d18 := ext_ok d20_ok g18_ok
noncomputable def d26 : Orc := ext 26 g26 d18
theorem d26_ok : OrcOK Tryd.prog d26 := ext_ok d18_ok g26_ok
noncomputable def d30 : Orc := ext 30 g30 d26
theorem d30_ok : OrcOK Tryd.prog d30 := ext_ok d26_ok g30_ok
theorem by_negO (a : Nat → Int) (n : Nat) : By n (negO a) := by rw [neg_st]; exact by_stF _ n
theorem by_addO (a b : Nat → Int) (n : Nat) : By n (addO a b) := by rw [add_st]; exact by_stF _ n
theorem by_mulO (a b : Nat → Int) (n : Nat) : By n (mulO a b) := by rw [mul_st]; exact by_stF _ n
theorem d28_t (a b : Nat → Int) (r : V) : awp Tryd.prog d30 noG 300 (body Tryd.f28) (ends Tryd.prog Tryd.f28 fun v _ => okV r v) ⟨[V.ints .u8 32 a, V.ints .u8 32 b] ++ List.replicate 7 V.un, []⟩ = (gB (byO 32 b) (gB (byO 32 a && byO 32 (negO b)) (okV r (V.ints .u8 32 (addO a (negO b)))))) := by kernel_rfl
theorem d28_a {a b : Nat → Int} (hg : (byO 32 a && byO 32 b) = true) : awp Tryd.prog d30 noG 300 (body Tryd.f28) (ends Tryd.prog Tryd.f28 fun v _ => okV (V.ints .u8 32 (addO a (negO b))) v) ⟨[V.ints .u8 32 a, V.ints .u8 32 b] ++ List.replicate 7 V.un, []⟩ := by
  rw [d28_t]
  exact gm (and_r hg) (gm (both (and_l hg) (byO_mk (by_negO b 32))) (okV_refl rfl))
noncomputable def g28 : List V → Option (Bool × V) := fun | [.ints .u8 32 a, .ints .u8 32 b] => some ((byO 32 a && byO 32 b), V.ints .u8 32 (addO a (negO b))) | _ => none
theorem g28_ok (vs : List V) (v : V) (h : g28 vs = some (true, v)) : (∀ μ μ', v.den μ' = v.den μ) ∧ ∀ μ w, PureAt Tryd.prog 28 (vs.map (V.den μ)).toArray (v.den μ) w := by
  unfold g28 at h
  split at h
  · simp only [Option.some.injEq, Prod.mk.injEq] at h
    obtain ⟨h, rfl⟩ := h
    exact pure_ok (F := d30) (N := 300) (fn := Tryd.f28) (args := [_, _]) (r := _) (n := 7) hM d30_ok (noG_ok _) Tryd.func28 (by kernel_rfl) (by kernel_rfl) (by kernel_rfl) (by kernel_rfl) (d28_a h) (by kernel_rfl)
  · cases h
noncomputable def d28 : Orc := ext 28 g28 d30
theorem d28_ok : OrcOK Tryd.prog d28 := ext_ok d30_ok g28_ok
theorem by_w32 {w : Nat → Int} (hw : By 64 w) : By 32 (w32 w) := fun j hj => by rw [w32_lo w j hj]; exact hw j (by omega)
theorem no_eq {a : Nat → Int} {A : Prop} (h : eqN 32 a a = false) : A := by rw [eqN_refl] at h; cases h
theorem lawReduces_t (w : Nat → Int) : awp Tryd.prog d28 noG 300 (body Tryd.f4) (ends Tryd.prog Tryd.f4 fun v _ => okV (V.bool true) v) ⟨[(V.ints .u8 64 w)] ++ List.replicate 25 V.un, [(V.tup [V.fn 2, (V.ints .u64 4 ordF)])]⟩ = (gB (byO 64 w) (mB (eqN 32 (rdcO w) (rdcO w)) (gB (byO 32 (w32 w)) (okV (V.bool true) (V.bool ((canO (w32 w)) == (canO (w32 w)))))) (okV (V.bool true) (V.bool false)))) := by kernel_rfl
theorem lawReduces_a {w : Nat → Int} (hw : By 64 w) : awp Tryd.prog d28 noG 300 (body Tryd.f4) (ends Tryd.prog Tryd.f4 fun v _ => okV (V.bool true) v) ⟨[(V.ints .u8 64 w)] ++ List.replicate 25 V.un, [(V.tup [V.fn 2, (V.ints .u64 4 ordF)])]⟩ := by
  rw [lawReduces_t]
  refine gm (byO_mk hw) (mBt (fun _ => gm (byO_mk (by_w32 hw)) (okV_bool ?_)) (fun h => no_eq h))
  exact beq_self_eq_true _
theorem lawSums_t (a b : Nat → Int) : awp Tryd.prog d28 noG 300 (body Tryd.f6) (ends Tryd.prog Tryd.f6 fun v _ => okV (V.bool true) v) ⟨[(V.ints .u8 32 a), (V.ints .u8 32 b)] ++ List.replicate 26 V.un, [(V.tup [V.fn 2, (V.ints .u64 4 ordF)])]⟩ = (gB ((byO 32 a) && (byO 32 b)) (mB (eqN 32 (addO a b) (addO a b)) (gB ((byO 32 a) && (byO 32 b)) (mB (eqN 32 (addO a (negO b)) (addO a (negO b))) (gB (byO 32 a) (okV (V.bool true) (V.bool (eqN 32 (negO a) (negO a))))) (okV (V.bool true) (V.bool false)))) (okV (V.bool true) (V.bool false)))) := by kernel_rfl
theorem lawSums_a {a b : Nat → Int} (ha : By 32 a) (hb : By 32 b) : awp Tryd.prog d28 noG 300 (body Tryd.f6) (ends Tryd.prog Tryd.f6 fun v _ => okV (V.bool true) v) ⟨[(V.ints .u8 32 a), (V.ints .u8 32 b)] ++ List.replicate 26 V.un, [(V.tup [V.fn 2, (V.ints .u64 4 ordF)])]⟩ := by
  rw [lawSums_t]
  have g := both (byO_mk ha) (byO_mk hb)
  refine gm g (mBt (fun _ => gm g (mBt (fun _ => gm (byO_mk ha) (okV_bool (eqN_refl _ _))) (fun h => no_eq h))) (fun h => no_eq h))
end Go.Proofs.YtnoehjibponofaaDoor
