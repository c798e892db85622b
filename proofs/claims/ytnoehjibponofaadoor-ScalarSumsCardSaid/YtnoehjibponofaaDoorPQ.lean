/-
  shifted, above: contracts; the laws of halves and of the one form. Conditions: none.
-/
import Derived.Test.YtnoehjibponofaaDoorPO
namespace Go.Proofs.YtnoehjibponofaaDoor
open Go.Ev
def shiftF (a b : Nat → Int) : Nat → Int := (up 63 (b 31) (up 31 (a 31) (up 62 (b 30) (up 30 (a 30) (up 61 (b 29) (up 29 (a 29) (up 60 (b 28) (up 28 (a 28) (up 59 (b 27) (up 27 (a 27) (up 58 (b 26) (up 26 (a 26) (up 57 (b 25) (up 25 (a 25) (up 56 (b 24) (up 24 (a 24) (up 55 (b 23) (up 23 (a 23) (up 54 (b 22) (up 22 (a 22) (up 53 (b 21) (up 21 (a 21) (up 52 (b 20) (up 20 (a 20) (up 51 (b 19) (up 19 (a 19) (up 50 (b 18) (up 18 (a 18) (up 49 (b 17) (up 17 (a 17) (up 48 (b 16) (up 16 (a 16) (up 47 (b 15) (up 15 (a 15) (up 46 (b 14) (up 14 (a 14) (up 45 (b 13) (up 13 (a 13) (up 44 (b 12) (up 12 (a 12) (up 43 (b 11) (up 11 (a 11) (up 42 (b 10) (up 10 (a 10) (up 41 (b 9) (up 9 (a 9) (up 40 (b 8) (up 8 (a 8) (up 39 (b 7) (up 7 (a 7) (up 38 (b 6) (up 6 (a 6) (up 37 (b 5) (up 5 (a 5) (up 36 (b 4) (up 4 (a 4) (up 35 (b 3) (up 3 (a 3) (up 34 (b 2) (up 2 (a 2) (up 33 (b 1) (up 1 (a 1) (up 32 (b 0) (up 0 (a 0) (fun _ => 0)))))))))))))))))))))))))))))))))))))))))))))))))))))))))))))))))
theorem shift_a (a b : Nat → Int) : awp Tryd.prog p33 noG 300 (body Tryd.f34) (ends Tryd.prog Tryd.f34 fun v _ => okV (V.ints .u8 64 (shiftF a b)) v) ⟨[V.ints .u8 32 a, V.ints .u8 32 b] ++ List.replicate 21 V.un, []⟩ := by
  have h : awp Tryd.prog p33 noG 300 (body Tryd.f34) (ends Tryd.prog Tryd.f34 fun v _ => okV (V.ints .u8 64 (shiftF a b)) v) ⟨[V.ints .u8 32 a, V.ints .u8 32 b] ++ List.replicate 21 V.un, []⟩ = okV (V.ints .u8 64 (shiftF a b)) (V.ints .u8 64 (shiftF a b)) := by kernel_rfl
  rw [h]
  exact okV_refl rfl
noncomputable def g34 : List V → Option (Bool × V) := fun | [.ints .u8 32 a, .ints .u8 32 b] => some (true, (V.ints .u8 64 (shiftF a b))) | _ => none
theorem g34_ok (vs : List V) (v : V) (h : g34 vs = some (true, v)) : (∀ μ μ', v.den μ' = v.den μ) ∧ ∀ μ w, PureAt Tryd.prog 34 (vs.map (V.den μ)).toArray (v.den μ) w := by
  unfold g34 at h
  split at h
  · simp only [Option.some.injEq, Prod.mk.injEq, true_and] at h
    subst h
    exact pure_ok (F := p33) (N := 300) (fn := Tryd.f34) (args := [_, _]) (r := _) (n := 21) hM p33_ok (noG_ok _) Tryd.func34 (by kernel_rfl) (by kernel_rfl) (by kernel_rfl) (by kernel_rfl) (shift_a _ _) (by kernel_rfl)
  · cases h
noncomputable def p34 : Orc := ext 34 g34 p33
theorem p34_ok : OrcOK Tryd.prog p34 := ext_ok p33_ok g34_ok
def abK (a o : Nat → Int) : Nat → Int
  | 0 => 0
  | k + 1 => quoI .i64 (addI .i64 (addI .i64 (IntKind.wrap .i64 (a k)) (IntKind.wrap .i64 (o k))) (abK a o k)) 256
def abS (a o : Nat → Int) (k : Nat) : Int := addI .i64 (addI .i64 (IntKind.wrap .i64 (a k)) (IntKind.wrap .i64 (o k))) (abK a o k)
def abF (a o : Nat → Int) : Nat → (Nat → Int)
  | 0 => a
  | k + 1 => up k (IntKind.wrap .u8 (remI (addI .i64 (addI .i64 (IntKind.wrap .i64 (a k)) (IntKind.wrap .i64 (o k))) (abK a o k)) 256)) (abF a o k)
theorem above_a (a o : Nat → Int) : awp Tryd.prog p34 noG 300 (body Tryd.f35) (ends Tryd.prog Tryd.f35 fun v _ => okV (V.tup [V.ints .u8 32 (abF a o 32), V.bool (abK a o 32 == 0)]) v) ⟨[V.ints .u8 32 a] ++ List.replicate 31 V.un, [V.tup [V.fn 1, V.ints .u8 32 o]]⟩ := by
  have h : awp Tryd.prog p34 noG 300 (body Tryd.f35) (ends Tryd.prog Tryd.f35 fun v _ => okV (V.tup [V.ints .u8 32 (abF a o 32), V.bool (abK a o 32 == 0)]) v) ⟨[V.ints .u8 32 a] ++ List.replicate 31 V.un, [V.tup [V.fn 1, V.ints .u8 32 o]]⟩ = okV (V.tup [V.ints .u8 32 (abF a o 32), V.bool (abK a o 32 == 0)]) (V.tup [V.ints .u8 32 (abF a o 32), V.bool (abK a o 32 == 0)]) := by kernel_rfl
  rw [h]
  exact okV_refl rfl
noncomputable def abFO : (Nat → Int) → (Nat → Int) → Nat → Int := Classical.choose (hide_ex fun a o => abF a o 32)
theorem abFO_eq : abFO = fun a o => abF a o 32 := Classical.choose_spec (hide_ex fun a o => abF a o 32)
noncomputable def abBO : (Nat → Int) → (Nat → Int) → Bool := Classical.choose (hide_ex fun a o => abK a o 32 == 0)
theorem abBO_eq : abBO = fun a o => abK a o 32 == 0 := Classical.choose_spec (hide_ex fun a o => abK a o 32 == 0)
noncomputable def g35 : List V → List V → Option (Bool × V) := fun vs m => match views [1] vs m with
  | some ([.ints .u8 32 a], [.tup [.fn 1, .ints .u8 32 o]]) => some (true, .tup [.ints .u8 32 (abFO a o), .bool (abBO a o)])
  | _ => none
theorem g35_ok (vs m : List V) (v : V) (h : g35 vs m = some (true, v)) : v.flat = true ∧ ∀ μ B w0 w, Under B w0 → Rel μ B w0 m w → PureAt Tryd.prog 35 (vs.map (V.den μ)).toArray (v.den μ) w := by
  unfold g35 at h
  split at h
  · rename_i a o hv
    simp only [Option.some.injEq, Prod.mk.injEq, true_and] at h
    subst h
    refine ⟨rfl, ?_⟩
    rw [abFO_eq, abBO_eq]
    exact reads_ok (fn := Tryd.f35) (N := 300) (n := 31) hM p34_ok (noG_ok _) Tryd.func35 (by kernel_rfl) (by kernel_rfl) hv rfl (above_a a o) (by kernel_rfl)
  · cases h
theorem g35_grow (vs m : List V) (z : V) (r : Bool × V) (h : g35 vs m = some r) : g35 vs (m ++ [z]) = some r := by
  unfold g35 at h ⊢
  cases hv : views [1] vs m with
  | none => rw [hv] at h; cases h
  | some p => rw [hv] at h; rw [views_grow hv]; exact h
noncomputable def p35 : Orc := extM 35 g35 p34
theorem p35_ok : OrcOK Tryd.prog p35 := extM_ok p34_ok g35_ok g35_grow
def ordB : Nat → Int := L [237, 211, 245, 92, 26, 99, 18, 88, 214, 156, 247, 162, 222, 249, 222, 20, 0, 0, 0, 0, 0, 0, 0, 0, 0, 0, 0, 0, 0, 0, 0, 16]
noncomputable def lawHalves (low : (Nat → Int)) (high : (Nat → Int)) : Bool := (eqN 32 (rdcO (shiftF low high)) (addO (mulO high (rdcO (shiftF (fun _ => 0) oneF))) low))
theorem lawHalves_t (low : (Nat → Int)) (high : (Nat → Int)) : awp Tryd.prog p35 noG 300 (body Tryd.f9) (ends Tryd.prog Tryd.f9 fun v _ => okV (V.bool (lawHalves low high)) v) ⟨[(V.ints .u8 32 low), (V.ints .u8 32 high)] ++ List.replicate 20 V.un, [(V.tup [V.fn 2, (V.ints .u64 4 ordF)]), (V.tup [V.fn 0, (V.ints .u8 32 oneF)]), (V.tup [V.fn 3, (V.ints .u8 32 twoF)])]⟩ = ((V.bool (eqN 32 (rdcO (shiftF low high)) (addO (mulO high (rdcO (shiftF (fun _ => 0) oneF))) low))).den z0 = (V.bool (lawHalves low high)).den z0) := by kernel_rfl
theorem lawHalves_a (low : (Nat → Int)) (high : (Nat → Int)) : awp Tryd.prog p35 noG 300 (body Tryd.f9) (ends Tryd.prog Tryd.f9 fun v _ => okV (V.bool (lawHalves low high)) v) ⟨[(V.ints .u8 32 low), (V.ints .u8 32 high)] ++ List.replicate 20 V.un, [(V.tup [V.fn 2, (V.ints .u64 4 ordF)]), (V.tup [V.fn 0, (V.ints .u8 32 oneF)]), (V.tup [V.fn 3, (V.ints .u8 32 twoF)])]⟩ := by
  rw [lawHalves_t]
  simp only [lawHalves]
def w32 (a : Nat → Int) : Nat → Int := (up 31 (a 31) (up 30 (a 30) (up 29 (a 29) (up 28 (a 28) (up 27 (a 27) (up 26 (a 26) (up 25 (a 25) (up 24 (a 24) (up 23 (a 23) (up 22 (a 22) (up 21 (a 21) (up 20 (a 20) (up 19 (a 19) (up 18 (a 18) (up 17 (a 17) (up 16 (a 16) (up 15 (a 15) (up 14 (a 14) (up 13 (a 13) (up 12 (a 12) (up 11 (a 11) (up 10 (a 10) (up 9 (a 9) (up 8 (a 8) (up 7 (a 7) (up 6 (a 6) (up 5 (a 5) (up 4 (a 4) (up 3 (a 3) (up 2 (a 2) (up 1 (a 1) (up 0 (a 0) (fun _ => 0)))))))))))))))))))))))))))))))))
noncomputable def lawOneForm (a : (Nat → Int)) : Bool := (cond (!(eqN 32 (rdcO (w32 a)) (addO a (fun _ => 0)))) false (cond (!(canO (rdcO (w32 a)))) false (cond (canO ordB) false (cond (!((canO a) == (eqN 32 (rdcO (w32 a)) a))) false (cond (!(abBO a ordB)) true (cond (!(canO (abFO a ordB))) (eqN 32 (addO (abFO a ordB) (fun _ => 0)) (rdcO (w32 a))) false))))))
theorem lawOneForm_t (a : (Nat → Int)) : awp Tryd.prog p35 noG 300 (body Tryd.f10) (ends Tryd.prog Tryd.f10 fun v _ => okV (V.bool (lawOneForm a)) v) ⟨[(V.ints .u8 32 a)] ++ List.replicate 64 V.un, [(V.tup [V.fn 2, (V.ints .u64 4 ordF)]), (V.tup [V.fn 0, (V.ints .u8 32 oneF)]), (V.tup [V.fn 3, (V.ints .u8 32 twoF)]), (V.tup [V.fn 1, (V.ints .u8 32 ordB)])]⟩ = (mB (!(eqN 32 (rdcO (w32 a)) (addO a (fun _ => 0)))) ((V.bool false).den z0 = (V.bool (lawOneForm a)).den z0) (mB (!(canO (rdcO (w32 a)))) ((V.bool false).den z0 = (V.bool (lawOneForm a)).den z0) (mB (canO ordB) ((V.bool false).den z0 = (V.bool (lawOneForm a)).den z0) (mB (!((canO a) == (eqN 32 (rdcO (w32 a)) a))) ((V.bool false).den z0 = (V.bool (lawOneForm a)).den z0) (mB (!(abBO a ordB)) ((V.bool true).den z0 = (V.bool (lawOneForm a)).den z0) (mB (!(canO (abFO a ordB))) ((V.bool (eqN 32 (addO (abFO a ordB) (fun _ => 0)) (rdcO (w32 a)))).den z0 = (V.bool (lawOneForm a)).den z0) ((V.bool false).den z0 = (V.bool (lawOneForm a)).den z0))))))) := by kernel_rfl
theorem lawOneForm_a (a : (Nat → Int)) : awp Tryd.prog p35 noG 300 (body Tryd.f10) (ends Tryd.prog Tryd.f10 fun v _ => okV (V.bool (lawOneForm a)) v) ⟨[(V.ints .u8 32 a)] ++ List.replicate 64 V.un, [(V.tup [V.fn 2, (V.ints .u64 4 ordF)]), (V.tup [V.fn 0, (V.ints .u8 32 oneF)]), (V.tup [V.fn 3, (V.ints .u8 32 twoF)]), (V.tup [V.fn 1, (V.ints .u8 32 ordB)])]⟩ := by
  rw [lawOneForm_t]
  refine mBt (fun h1 => ?_) (fun h1 => ?_)
  · simp only [lawOneForm, h1, cond_true]
  · refine mBt (fun h2 => ?_) (fun h2 => ?_)
    · simp only [lawOneForm, h1, h2, cond_true, cond_false]
    · refine mBt (fun h3 => ?_) (fun h3 => ?_)
      · simp only [lawOneForm, h1, h2, h3, cond_true, cond_false]
      · refine mBt (fun h4 => ?_) (fun h4 => ?_)
        · simp only [lawOneForm, h1, h2, h3, h4, cond_true, cond_false]
        · refine mBt (fun h5 => ?_) (fun h5 => ?_)
          · simp only [lawOneForm, h1, h2, h3, h4, h5, cond_true, cond_false]
          · refine mBt (fun h6 => ?_) (fun h6 => ?_)
            · simp only [lawOneForm, h1, h2, h3, h4, h5, h6, cond_true, cond_false]
            · simp only [lawOneForm, h1, h2, h3, h4, h5, h6, cond_false]
end Go.Proofs.YtnoehjibponofaaDoor
