/-
  The functions of package scalar, as numbers: contracts. Conditions: none.
-/
import Derived.Test.YtnoehjibponofaaDoorPL
namespace Go.Proofs.YtnoehjibponofaaDoor
open Go.Ev
noncomputable def addO : (Nat → Int) → (Nat → Int) → Nat → Int := Classical.choose (hide_ex fun a b => stF ((num a + num b) % LL))
theorem addO_eq : addO = fun a b => stF ((num a + num b) % LL) := Classical.choose_spec (hide_ex fun a b => stF ((num a + num b) % LL))
noncomputable def negO : (Nat → Int) → Nat → Int := Classical.choose (hide_ex fun a => stF (-num a % LL))
theorem negO_eq : negO = fun a => stF (-num a % LL) := Classical.choose_spec (hide_ex fun a => stF (-num a % LL))
noncomputable def mulO : (Nat → Int) → (Nat → Int) → Nat → Int := Classical.choose (hide_ex fun a b => stF (num a * num b % LL))
theorem mulO_eq : mulO = fun a b => stF (num a * num b % LL) := Classical.choose_spec (hide_ex fun a b => stF (num a * num b % LL))
noncomputable def wideO : (Nat → Int) → Nat → Int := Classical.choose (hide_ex fun w => fun j => ldR w (8 * j) 8)
theorem wideO_eq : wideO = fun w => fun j => ldR w (8 * j) 8 := Classical.choose_spec (hide_ex fun w => fun j => ldR w (8 * j) 8)
noncomputable def rdcO : (Nat → Int) → Nat → Int := Classical.choose (hide_ex fun w => stF (lvn 8 (wideO w) % LL))
theorem rdcO_eq : rdcO = fun w => stF (lvn 8 (wideO w) % LL) := Classical.choose_spec (hide_ex fun w => stF (lvn 8 (wideO w) % LL))
noncomputable def canO : (Nat → Int) → Bool := Classical.choose (hide_ex fun a => decide (num a < LL))
theorem canO_eq : canO = fun a => decide (num a < LL) := Classical.choose_spec (hide_ex fun a => decide (num a < LL))
theorem red_lt {n m : Nat} {f g : Nat → Int} : lv4 (redO n f) + lv4 (redO m g) < 115792089237316195423570985008687907853269984665640564039457584007913129639936 := by
  rw [red_lv, red_lv]
  have h := (mod_nn (lvn n f)).2; have h2 := (mod_nn (lvn m g)).2
  unfold LL at *
  omega
theorem plus_uO {n m : Nat} {f g : Nat → Int} : u4 (plusO (redO n f) (redO m g)) = true ∧ lv4 (plusO (redO n f) (redO m g)) = lvn n f % LL + lvn m g % LL := by
  rw [plusO_eq]
  obtain ⟨h1, h2⟩ := plus_small (red_u4 n f) (red_u4 m g) red_lt
  exact ⟨h2, by rw [h1, red_lv, red_lv]⟩
theorem add_leaf (a b o : Nat → Int) (ho : eqN 4 o ordF = true) : (V.ints .u8 32 (storeO (belO o (plusO (redO 4 (loadO a)) (redO 4 (loadO b)))))).den z0 = (V.ints .u8 32 (addO a b)).den z0 := by
  obtain ⟨h1, h2⟩ := plus_uO (n := 4) (m := 4) (f := loadO a) (g := loadO b)
  rw [store_eq (bel_n h1 ho), h2, addO_eq]
  have : (lvn 4 (loadO a) % LL + lvn 4 (loadO b) % LL) % LL = (num a + num b) % LL := (Int.add_emod _ _ _).symm
  rw [this]
theorem addS_t (o : Nat → Int) (a b : Nat → Int) : awp Tryd.prog p51 noG 300 (body Tryd.f25) (ends Tryd.prog Tryd.f25 fun v _ => okV (V.ints .u8 32 (addO a b)) v) ⟨[V.ints .u8 32 a, V.ints .u8 32 b] ++ List.replicate 16 V.un, [V.tup [V.fn 2, V.ints .u64 4 o]]⟩ = (gB (eqN 4 o ordF) (gB (eqN 4 o ordF) (gB (u4O (redO 4 (loadO a)) && u4O (redO 4 (loadO b))) (gB (u4O (plusO (redO 4 (loadO a)) (redO 4 (loadO b))) && eqN 4 o ordF) ((V.ints .u8 32 (storeO (belO o (plusO (redO 4 (loadO a)) (redO 4 (loadO b)))))).den z0 = (V.ints .u8 32 (addO a b)).den z0))))) := by kernel_rfl
theorem addS_a (o : Nat → Int) (a b : Nat → Int) (ho : eqN 4 o ordF = true) : awp Tryd.prog p51 noG 300 (body Tryd.f25) (ends Tryd.prog Tryd.f25 fun v _ => okV (V.ints .u8 32 (addO a b)) v) ⟨[V.ints .u8 32 a, V.ints .u8 32 b] ++ List.replicate 16 V.un, [V.tup [V.fn 2, V.ints .u64 4 o]]⟩ := by
  rw [addS_t]
  exact (gm ho (gm ho (gm (both (u4O_t (red_u4 _ _)) (u4O_t (red_u4 _ _))) (gm (both (u4O_t plus_uO.1) ho) (add_leaf a b o ho)))))
noncomputable def g25 : List V → List V → Option (Bool × V) := fun vs m => match views [2] vs m with
  | some ([.ints .u8 32 a, .ints .u8 32 b], [.tup [.fn 2, .ints .u64 4 o]]) => some (eqN 4 o ordF, (V.ints .u8 32 (addO a b)))
  | _ => none
theorem g25_ok (vs m : List V) (v : V) (h : g25 vs m = some (true, v)) : v.flat = true ∧ ∀ μ B w0 w, Under B w0 → Rel μ B w0 m w → PureAt Tryd.prog 25 (vs.map (V.den μ)).toArray (v.den μ) w := by
  unfold g25 at h
  split at h
  · rename_i a b o hv
    simp only [Option.some.injEq, Prod.mk.injEq] at h
    obtain ⟨h1, rfl⟩ := h
    refine ⟨rfl, ?_⟩
    exact reads_ok (fn := Tryd.f25) (N := 300) (n := 16) hM p51_ok (noG_ok _) Tryd.func25 (by kernel_rfl) (by kernel_rfl) hv rfl (addS_a o a b h1) (by kernel_rfl)
  · cases h
theorem g25_grow (vs m : List V) (z : V) (r : Bool × V) (h : g25 vs m = some r) : g25 vs (m ++ [z]) = some r := by
  unfold g25 at h ⊢
  cases hv : views [2] vs m with
  | none => rw [hv] at h; cases h
  | some p => rw [hv] at h; rw [views_grow hv]; exact h
noncomputable def p25 : Orc := extM 25 g25 p51
theorem p25_ok : OrcOK Tryd.prog p25 := extM_ok p51_ok g25_ok g25_grow
theorem neg_u (a : Nat → Int) {o : Nat → Int} (ho : eqN 4 o ordF = true) : u4 (minusO o (redO 4 (loadO a))) = true ∧ lv4 (minusO o (redO 4 (loadO a))) = LL - num a % LL := by
  obtain ⟨o1, o2⟩ := eq_ord ho
  rw [minusO_eq]
  have h := mod_nn (num a)
  have e : lv4 (redO 4 (loadO a)) = num a % LL := red_lv _ _
  refine ⟨(minus_v o1 (red_u4 _ _)).2, ?_⟩
  rw [(minus_ge o1 (red_u4 _ _) (by rw [e, o2]; unfold LL at *; omega)).1, e, o2]
  rfl
theorem neg_leaf (a o : Nat → Int) (ho : eqN 4 o ordF = true) : (V.ints .u8 32 (storeO (belO o (minusO o (redO 4 (loadO a)))))).den z0 = (V.ints .u8 32 (negO a)).den z0 := by
  obtain ⟨h1, h2⟩ := neg_u a ho
  rw [store_eq (bel_n h1 ho), h2, negO_eq]
  have : (LL - num a % LL) % LL = -num a % LL := by unfold LL; omega
  rw [this]
theorem negS_t (o : Nat → Int) (a : Nat → Int) : awp Tryd.prog p25 noG 300 (body Tryd.f29) (ends Tryd.prog Tryd.f29 fun v _ => okV (V.ints .u8 32 (negO a)) v) ⟨[V.ints .u8 32 a] ++ List.replicate 14 V.un, [V.tup [V.fn 2, V.ints .u64 4 o]]⟩ = (gB (eqN 4 o ordF) (gB (u4O (minusO o (redO 4 (loadO a))) && eqN 4 o ordF) ((V.ints .u8 32 (storeO (belO o (minusO o (redO 4 (loadO a)))))).den z0 = (V.ints .u8 32 (negO a)).den z0))) := by kernel_rfl
theorem negS_a (o : Nat → Int) (a : Nat → Int) (ho : eqN 4 o ordF = true) : awp Tryd.prog p25 noG 300 (body Tryd.f29) (ends Tryd.prog Tryd.f29 fun v _ => okV (V.ints .u8 32 (negO a)) v) ⟨[V.ints .u8 32 a] ++ List.replicate 14 V.un, [V.tup [V.fn 2, V.ints .u64 4 o]]⟩ := by
  rw [negS_t]
  exact (gm ho (gm (both (u4O_t (neg_u a ho).1) ho) (neg_leaf a o ho)))
noncomputable def g29 : List V → List V → Option (Bool × V) := fun vs m => match views [2] vs m with
  | some ([.ints .u8 32 a], [.tup [.fn 2, .ints .u64 4 o]]) => some (eqN 4 o ordF, (V.ints .u8 32 (negO a)))
  | _ => none
theorem g29_ok (vs m : List V) (v : V) (h : g29 vs m = some (true, v)) : v.flat = true ∧ ∀ μ B w0 w, Under B w0 → Rel μ B w0 m w → PureAt Tryd.prog 29 (vs.map (V.den μ)).toArray (v.den μ) w := by
  unfold g29 at h
  split at h
  · rename_i a o hv
    simp only [Option.some.injEq, Prod.mk.injEq] at h
    obtain ⟨h1, rfl⟩ := h
    refine ⟨rfl, ?_⟩
    exact reads_ok (fn := Tryd.f29) (N := 300) (n := 14) hM p25_ok (noG_ok _) Tryd.func29 (by kernel_rfl) (by kernel_rfl) hv rfl (negS_a o a h1) (by kernel_rfl)
  · cases h
theorem g29_grow (vs m : List V) (z : V) (r : Bool × V) (h : g29 vs m = some r) : g29 vs (m ++ [z]) = some r := by
  unfold g29 at h ⊢
  cases hv : views [2] vs m with
  | none => rw [hv] at h; cases h
  | some p => rw [hv] at h; rw [views_grow hv]; exact h
noncomputable def p29 : Orc := extM 29 g29 p25
theorem p29_ok : OrcOK Tryd.prog p29 := extM_ok p25_ok g29_ok g29_grow
theorem subS_t (o : Nat → Int) (a b : Nat → Int) : awp Tryd.prog p29 noG 300 (body Tryd.f27) (ends Tryd.prog Tryd.f27 fun v _ => okV (V.ints .u8 32 (addO a (negO b))) v) ⟨[V.ints .u8 32 a, V.ints .u8 32 b] ++ List.replicate 7 V.un, [V.tup [V.fn 2, V.ints .u64 4 o]]⟩ = (gB (eqN 4 o ordF) (gB (eqN 4 o ordF) ((V.ints .u8 32 (addO a (negO b))).den z0 = (V.ints .u8 32 (addO a (negO b))).den z0))) := by kernel_rfl
theorem subS_a (o : Nat → Int) (a b : Nat → Int) (ho : eqN 4 o ordF = true) : awp Tryd.prog p29 noG 300 (body Tryd.f27) (ends Tryd.prog Tryd.f27 fun v _ => okV (V.ints .u8 32 (addO a (negO b))) v) ⟨[V.ints .u8 32 a, V.ints .u8 32 b] ++ List.replicate 7 V.un, [V.tup [V.fn 2, V.ints .u64 4 o]]⟩ := by
  rw [subS_t]
  exact (gm ho (gm ho (rfl)))
noncomputable def g27 : List V → List V → Option (Bool × V) := fun vs m => match views [2] vs m with
  | some ([.ints .u8 32 a, .ints .u8 32 b], [.tup [.fn 2, .ints .u64 4 o]]) => some (eqN 4 o ordF, (V.ints .u8 32 (addO a (negO b))))
  | _ => none
theorem g27_ok (vs m : List V) (v : V) (h : g27 vs m = some (true, v)) : v.flat = true ∧ ∀ μ B w0 w, Under B w0 → Rel μ B w0 m w → PureAt Tryd.prog 27 (vs.map (V.den μ)).toArray (v.den μ) w := by
  unfold g27 at h
  split at h
  · rename_i a b o hv
    simp only [Option.some.injEq, Prod.mk.injEq] at h
    obtain ⟨h1, rfl⟩ := h
    refine ⟨rfl, ?_⟩
    exact reads_ok (fn := Tryd.f27) (N := 300) (n := 7) hM p29_ok (noG_ok _) Tryd.func27 (by kernel_rfl) (by kernel_rfl) hv rfl (subS_a o a b h1) (by kernel_rfl)
  · cases h
theorem g27_grow (vs m : List V) (z : V) (r : Bool × V) (h : g27 vs m = some r) : g27 vs (m ++ [z]) = some r := by
  unfold g27 at h ⊢
  cases hv : views [2] vs m with
  | none => rw [hv] at h; cases h
  | some p => rw [hv] at h; rw [views_grow hv]; exact h
noncomputable def p27 : Orc := extM 27 g27 p29
theorem p27_ok : OrcOK Tryd.prog p27 := extM_ok p29_ok g27_ok g27_grow
theorem times_44 (a b : Nat → Int) : (∀ j, U1 (timesR (loadO a) (loadO b) 4 4 j)) ∧ lvn 8 (timesR (loadO a) (loadO b) 4 4) = num a * num b :=
  times_v (n := 4) (fun j _ => loadO_U b j) 4 (fun j _ => loadO_U a j)
theorem mul_leaf (a b : Nat → Int) : (V.ints .u8 32 (storeO (redO 8 (timesR (loadO a) (loadO b) 4 4)))).den z0 = (V.ints .u8 32 (mulO a b)).den z0 := by
  rw [store_eq red_n, (times_44 a b).2, mulO_eq]
theorem mulS_t (o : Nat → Int) (a b : Nat → Int) : awp Tryd.prog p27 G48 300 (body Tryd.f21) (ends Tryd.prog Tryd.f21 fun v _ => okV (V.ints .u8 32 (mulO a b)) v) ⟨[V.ints .u8 32 a, V.ints .u8 32 b] ++ List.replicate 10 V.un, [V.tup [V.fn 2, V.ints .u64 4 o]]⟩ = (((gB (Nat.ble 8 8 && (uNO 8 (timesR (loadO a) (loadO b) 4 4) && eqN 4 o ordF)) ((V.ints .u8 32 (storeO (redO 8 (timesR (loadO a) (loadO b) 4 4)))).den z0 = (V.ints .u8 32 (mulO a b)).den z0)) ∧ (gB (Nat.ble 8 8 && (uNO 8 (timesR (loadO a) (loadO b) 4 4) && eqN 4 o ordF)) ((V.ints .u8 32 (storeO (redO 8 (timesR (loadO a) (loadO b) 4 4)))).den z0 = (V.ints .u8 32 (mulO a b)).den z0))) ∧ (gB (Nat.ble 8 8 && (uNO 8 (timesR (loadO a) (loadO b) 4 4) && eqN 4 o ordF)) ((V.ints .u8 32 (storeO (redO 8 (timesR (loadO a) (loadO b) 4 4)))).den z0 = (V.ints .u8 32 (mulO a b)).den z0))) := by kernel_rfl
theorem mulS_a (o : Nat → Int) (a b : Nat → Int) (ho : eqN 4 o ordF = true) : awp Tryd.prog p27 G48 300 (body Tryd.f21) (ends Tryd.prog Tryd.f21 fun v _ => okV (V.ints .u8 32 (mulO a b)) v) ⟨[V.ints .u8 32 a, V.ints .u8 32 b] ++ List.replicate 10 V.un, [V.tup [V.fn 2, V.ints .u64 4 o]]⟩ := by
  rw [mulS_t]
  exact ⟨⟨(gm (both rfl (both (uNO_t fun j _ => (times_44 a b).1 j) ho)) (mul_leaf a b)), (gm (both rfl (both (uNO_t fun j _ => (times_44 a b).1 j) ho)) (mul_leaf a b))⟩, (gm (both rfl (both (uNO_t fun j _ => (times_44 a b).1 j) ho)) (mul_leaf a b))⟩
noncomputable def g21 : List V → List V → Option (Bool × V) := fun vs m => match views [2] vs m with
  | some ([.ints .u8 32 a, .ints .u8 32 b], [.tup [.fn 2, .ints .u64 4 o]]) => some (eqN 4 o ordF, (V.ints .u8 32 (mulO a b)))
  | _ => none
theorem g21_ok (vs m : List V) (v : V) (h : g21 vs m = some (true, v)) : v.flat = true ∧ ∀ μ B w0 w, Under B w0 → Rel μ B w0 m w → PureAt Tryd.prog 21 (vs.map (V.den μ)).toArray (v.den μ) w := by
  unfold g21 at h
  split at h
  · rename_i a b o hv
    simp only [Option.some.injEq, Prod.mk.injEq] at h
    obtain ⟨h1, rfl⟩ := h
    refine ⟨rfl, ?_⟩
    exact reads_ok (fn := Tryd.f21) (N := 300) (n := 10) hM p27_ok (G48_ok) Tryd.func21 (by kernel_rfl) (by kernel_rfl) hv rfl (mulS_a o a b h1) (by kernel_rfl)
  · cases h
theorem g21_grow (vs m : List V) (z : V) (r : Bool × V) (h : g21 vs m = some r) : g21 vs (m ++ [z]) = some r := by
  unfold g21 at h ⊢
  cases hv : views [2] vs m with
  | none => rw [hv] at h; cases h
  | some p => rw [hv] at h; rw [views_grow hv]; exact h
noncomputable def p21 : Orc := extM 21 g21 p27
theorem p21_ok : OrcOK Tryd.prog p21 := extM_ok p27_ok g21_ok g21_grow
theorem maS_t (o : Nat → Int) (a b c : Nat → Int) : awp Tryd.prog p21 noG 300 (body Tryd.f23) (ends Tryd.prog Tryd.f23 fun v _ => okV (V.ints .u8 32 (addO (mulO a b) c)) v) ⟨[V.ints .u8 32 a, V.ints .u8 32 b, V.ints .u8 32 c] ++ List.replicate 9 V.un, [V.tup [V.fn 2, V.ints .u64 4 o]]⟩ = (gB (eqN 4 o ordF) (gB (eqN 4 o ordF) ((V.ints .u8 32 (addO (mulO a b) c)).den z0 = (V.ints .u8 32 (addO (mulO a b) c)).den z0))) := by kernel_rfl
theorem maS_a (o : Nat → Int) (a b c : Nat → Int) (ho : eqN 4 o ordF = true) : awp Tryd.prog p21 noG 300 (body Tryd.f23) (ends Tryd.prog Tryd.f23 fun v _ => okV (V.ints .u8 32 (addO (mulO a b) c)) v) ⟨[V.ints .u8 32 a, V.ints .u8 32 b, V.ints .u8 32 c] ++ List.replicate 9 V.un, [V.tup [V.fn 2, V.ints .u64 4 o]]⟩ := by
  rw [maS_t]
  exact (gm ho (gm ho (rfl)))
noncomputable def g23 : List V → List V → Option (Bool × V) := fun vs m => match views [2] vs m with
  | some ([.ints .u8 32 a, .ints .u8 32 b, .ints .u8 32 c], [.tup [.fn 2, .ints .u64 4 o]]) => some (eqN 4 o ordF, (V.ints .u8 32 (addO (mulO a b) c)))
  | _ => none
theorem g23_ok (vs m : List V) (v : V) (h : g23 vs m = some (true, v)) : v.flat = true ∧ ∀ μ B w0 w, Under B w0 → Rel μ B w0 m w → PureAt Tryd.prog 23 (vs.map (V.den μ)).toArray (v.den μ) w := by
  unfold g23 at h
  split at h
  · rename_i a b c o hv
    simp only [Option.some.injEq, Prod.mk.injEq] at h
    obtain ⟨h1, rfl⟩ := h
    refine ⟨rfl, ?_⟩
    exact reads_ok (fn := Tryd.f23) (N := 300) (n := 9) hM p21_ok (noG_ok _) Tryd.func23 (by kernel_rfl) (by kernel_rfl) hv rfl (maS_a o a b c h1) (by kernel_rfl)
  · cases h
theorem g23_grow (vs m : List V) (z : V) (r : Bool × V) (h : g23 vs m = some r) : g23 vs (m ++ [z]) = some r := by
  unfold g23 at h ⊢
  cases hv : views [2] vs m with
  | none => rw [hv] at h; cases h
  | some p => rw [hv] at h; rw [views_grow hv]; exact h
noncomputable def p23 : Orc := extM 23 g23 p21
theorem p23_ok : OrcOK Tryd.prog p23 := extM_ok p21_ok g23_ok g23_grow
theorem can_leaf (a o : Nat → Int) (ho : eqN 4 o ordF = true) : (V.bool (bcO (loadO a) o == 1)).den z0 = (V.bool (canO a)).den z0 := by
  obtain ⟨o1, o2⟩ := eq_ord ho
  have e : lv4 (loadO a) = num a := (lvn4 _).symm
  rw [bcO_eq, canO_eq]
  dsimp only
  by_cases h : num a < LL
  · rw [minus_lt (loadO_u4 a) o1 (by rw [e, o2]; exact h), decide_eq_true h]; rfl
  · rw [(minus_ge (loadO_u4 a) o1 (by rw [e, o2]; unfold LL at h; omega)).2, decide_eq_false h]; rfl
theorem canS_t (o : Nat → Int) (a : Nat → Int) : awp Tryd.prog p23 noG 300 (body Tryd.f19) (ends Tryd.prog Tryd.f19 fun v _ => okV (V.bool (canO a)) v) ⟨[V.ints .u8 32 a] ++ List.replicate 13 V.un, [V.tup [V.fn 2, V.ints .u64 4 o]]⟩ = ((V.bool (bcO (loadO a) o == 1)).den z0 = (V.bool (canO a)).den z0) := by kernel_rfl
theorem canS_a (o : Nat → Int) (a : Nat → Int) (ho : eqN 4 o ordF = true) : awp Tryd.prog p23 noG 300 (body Tryd.f19) (ends Tryd.prog Tryd.f19 fun v _ => okV (V.bool (canO a)) v) ⟨[V.ints .u8 32 a] ++ List.replicate 13 V.un, [V.tup [V.fn 2, V.ints .u64 4 o]]⟩ := by
  rw [canS_t]
  exact (can_leaf a o ho)
noncomputable def g19 : List V → List V → Option (Bool × V) := fun vs m => match views [2] vs m with
  | some ([.ints .u8 32 a], [.tup [.fn 2, .ints .u64 4 o]]) => some (eqN 4 o ordF, (V.bool (canO a)))
  | _ => none
theorem g19_ok (vs m : List V) (v : V) (h : g19 vs m = some (true, v)) : v.flat = true ∧ ∀ μ B w0 w, Under B w0 → Rel μ B w0 m w → PureAt Tryd.prog 19 (vs.map (V.den μ)).toArray (v.den μ) w := by
  unfold g19 at h
  split at h
  · rename_i a o hv
    simp only [Option.some.injEq, Prod.mk.injEq] at h
    obtain ⟨h1, rfl⟩ := h
    refine ⟨rfl, ?_⟩
    exact reads_ok (fn := Tryd.f19) (N := 300) (n := 13) hM p23_ok (noG_ok _) Tryd.func19 (by kernel_rfl) (by kernel_rfl) hv rfl (canS_a o a h1) (by kernel_rfl)
  · cases h
theorem g19_grow (vs m : List V) (z : V) (r : Bool × V) (h : g19 vs m = some r) : g19 vs (m ++ [z]) = some r := by
  unfold g19 at h ⊢
  cases hv : views [2] vs m with
  | none => rw [hv] at h; cases h
  | some p => rw [hv] at h; rw [views_grow hv]; exact h
noncomputable def p19 : Orc := extM 19 g19 p23
theorem p19_ok : OrcOK Tryd.prog p19 := extM_ok p23_ok g19_ok g19_grow
def wideF (w : Nat → Int) : Nat → Int := (up 7 (ldR w 56 8) (up 6 (ldR w 48 8) (up 5 (ldR w 40 8) (up 4 (ldR w 32 8) (up 3 (ldR w 24 8) (up 2 (ldR w 16 8) (up 1 (ldR w 8 8) (up 0 (ldR w 0 8) (fun _ => 0)))))))))
theorem wide_at (w : Nat → Int) : ∀ j, j < 8 → wideF w j = wideO w j := by
  intro j hj
  rw [wideO_eq]
  have : j = 0 ∨ j = 1 ∨ j = 2 ∨ j = 3 ∨ j = 4 ∨ j = 5 ∨ j = 6 ∨ j = 7 := by omega
  rcases this with rfl | rfl | rfl | rfl | rfl | rfl | rfl | rfl <;> rfl
theorem wide_U (w : Nat → Int) : ∀ j, j < 8 → U1 (wideF w j) := by
  intro j hj
  rw [wide_at w j hj, wideO_eq]
  exact ldR_U _ _ _
theorem rdc_leaf (w : Nat → Int) : (V.ints .u8 32 (storeO (redO 8 (wideF w)))).den z0 = (V.ints .u8 32 (rdcO w)).den z0 := by
  rw [store_eq red_n, lvn_congr (wide_at w), rdcO_eq]
theorem rdcS_t (o : Nat → Int) (w : Nat → Int) : awp Tryd.prog p19 noG 300 (body Tryd.f17) (ends Tryd.prog Tryd.f17 fun v _ => okV (V.ints .u8 32 (rdcO w)) v) ⟨[V.ints .u8 64 w] ++ List.replicate 20 V.un, [V.tup [V.fn 2, V.ints .u64 4 o]]⟩ = (gB (Nat.ble 8 8 && (uNO 8 (wideF w) && eqN 4 o ordF)) ((V.ints .u8 32 (storeO (redO 8 (wideF w)))).den z0 = (V.ints .u8 32 (rdcO w)).den z0)) := by kernel_rfl
theorem rdcS_a (o : Nat → Int) (w : Nat → Int) (ho : eqN 4 o ordF = true) : awp Tryd.prog p19 noG 300 (body Tryd.f17) (ends Tryd.prog Tryd.f17 fun v _ => okV (V.ints .u8 32 (rdcO w)) v) ⟨[V.ints .u8 64 w] ++ List.replicate 20 V.un, [V.tup [V.fn 2, V.ints .u64 4 o]]⟩ := by
  rw [rdcS_t]
  exact (gm (both rfl (both (uNO_t (wide_U w)) ho)) (rdc_leaf w))
noncomputable def g17 : List V → List V → Option (Bool × V) := fun vs m => match views [2] vs m with
  | some ([.ints .u8 64 w], [.tup [.fn 2, .ints .u64 4 o]]) => some (eqN 4 o ordF, (V.ints .u8 32 (rdcO w)))
  | _ => none
theorem g17_ok (vs m : List V) (v : V) (h : g17 vs m = some (true, v)) : v.flat = true ∧ ∀ μ B w0 w, Under B w0 → Rel μ B w0 m w → PureAt Tryd.prog 17 (vs.map (V.den μ)).toArray (v.den μ) w := by
  unfold g17 at h
  split at h
  · rename_i w o hv
    simp only [Option.some.injEq, Prod.mk.injEq] at h
    obtain ⟨h1, rfl⟩ := h
    refine ⟨rfl, ?_⟩
    exact reads_ok (fn := Tryd.f17) (N := 300) (n := 20) hM p19_ok (noG_ok _) Tryd.func17 (by kernel_rfl) (by kernel_rfl) hv rfl (rdcS_a o w h1) (by kernel_rfl)
  · cases h
theorem g17_grow (vs m : List V) (z : V) (r : Bool × V) (h : g17 vs m = some r) : g17 vs (m ++ [z]) = some r := by
  unfold g17 at h ⊢
  cases hv : views [2] vs m with
  | none => rw [hv] at h; cases h
  | some p => rw [hv] at h; rw [views_grow hv]; exact h
noncomputable def p17 : Orc := extM 17 g17 p19
theorem p17_ok : OrcOK Tryd.prog p17 := extM_ok p19_ok g17_ok g17_grow
end Go.Proofs.YtnoehjibponofaaDoor
