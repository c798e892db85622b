/-
  reduce, mod: contracts. Conditions: none.
-/
import Derived.Test.YtnoehjibponofaaDoorPJ
namespace Go.Proofs.YtnoehjibponofaaDoor
open Go.Ev
def uN : Nat → (Nat → Int) → Bool
  | 0, _ => true
  | n + 1, f => uN n f && u1 (f n)
theorem uN_at {f : Nat → Int} : ∀ {n : Nat}, uN n f = true → ∀ j, j < n → U1 (f j)
  | 0, _, j, hj => by omega
  | n + 1, h, j, hj => by
    simp only [uN, Bool.and_eq_true] at h
    by_cases e : j = n
    · subst e; simpa [u1, U1] using h.2
    · exact uN_at h.1 j (by omega)
theorem uN_mk {f : Nat → Int} : ∀ {n : Nat}, (∀ j, j < n → U1 (f j)) → uN n f = true
  | 0, _ => rfl
  | n + 1, h => by
    simp only [uN, Bool.and_eq_true]
    exact ⟨uN_mk fun j hj => h j (by omega), by simpa [u1, U1] using h n (by omega)⟩
noncomputable def uNO : Nat → (Nat → Int) → Bool := Classical.choose (hide_ex uN)
theorem uNO_eq : uNO = uN := Classical.choose_spec (hide_ex uN)
noncomputable def redO : Nat → (Nat → Int) → Nat → Int := Classical.choose (hide_ex fun n f => wF (lvn n f % LL))
theorem redO_eq : redO = fun n f => wF (lvn n f % LL) := Classical.choose_spec (hide_ex fun n f => wF (lvn n f % LL))
theorem red8_a {e c : Nat} {o f : Nat → Int} (hf : uNO 8 f = true) (ho : eqN 4 o ordF = true) : awp Tryd.prog q52 G47 300 (body Tryd.f40) (ends Tryd.prog Tryd.f40 fun v _ => okV (V.ints .u64 4 (redO 8 f)) v) ⟨[V.sl 1 0 8 c] ++ List.replicate 55 V.un, [V.tup [V.fn 2, V.ints .u64 4 o], V.tup [V.ints .u64 (e + 8) f]]⟩ := by
  rw [uNO_eq] at hf
  have hf := uN_at hf
  rw [red8_t]
  intro e0 h0
  have v1 := (nx_v h0 hf).1
  refine gm (fold_all (x1 := Z0) (x2 := Z0) (x3 := Z0) (n1 := 0) (n2 := 0) (n3 := 0) hf (by omega) (by omega) (by omega)).1 fun e1 h1 => ?_
  have v2 := (nx_v (n := 7) (x := nx 8 f h0) h1 (fun j _ => v1 j)).1
  refine gm (fold_all (x2 := Z0) (x3 := Z0) (n1 := 7) (n2 := 0) (n3 := 0) hf (fun j _ => v1 j) (by omega) (by omega)).2.1 fun e2 h2 => ?_
  have v3 := (nx_v (n := 6) (x := nx 7 (nx 8 f h0) h1) h2 (fun j _ => v2 j)).1
  refine gm (fold_all (x3 := Z0) (n1 := 7) (n2 := 6) (n3 := 0) hf (fun j _ => v1 j) (fun j _ => v2 j) (by omega)).2.2.1 fun e3 h3 => ?_
  refine gm (fold_all (n1 := 7) (n2 := 6) (n3 := 5) hf (fun j _ => v1 j) (fun j _ => v2 j) (fun j _ => v3 j)).2.2.2.1 ?_
  obtain ⟨r1, r2, r3, r4⟩ := red8_v (h0 := h0) (h1 := h1) (h2 := h2) hf ho
  refine gm r1 (gm r2 (gm r3 ?_))
  rw [redO_eq]
  unfold redS at r4
  exact r4
theorem red4_a {e c : Nat} {o f : Nat → Int} (hf : uNO 4 f = true) (ho : eqN 4 o ordF = true) : awp Tryd.prog q52 G47 300 (body Tryd.f40) (ends Tryd.prog Tryd.f40 fun v _ => okV (V.ints .u64 4 (redO 4 f)) v) ⟨[V.sl 1 0 4 c] ++ List.replicate 55 V.un, [V.tup [V.fn 2, V.ints .u64 4 o], V.tup [V.ints .u64 (e + 4) f]]⟩ := by
  rw [uNO_eq] at hf
  have hf := uN_at hf
  rw [red4_t]
  intro e0 h0
  have v1 := (nx_v h0 hf).1
  have vz : ∀ j, U1 (Z0 j) := fun j => ⟨by show (0 : Int) ≤ 0; decide, by show (0 : Int) < _; decide⟩
  obtain ⟨g0, g1, g2, g3, -⟩ := fold_all (n0 := 4) (n1 := 3) (n2 := 2) (n3 := 2) hf (fun j _ => v1 j) (fun j _ => vz j) (fun j _ => vz j)
  refine gm g0 (gm g1 (gm g2 (gm g3 ?_)))
  obtain ⟨r1, r2, r3, r4⟩ := red4_v (h0 := h0) hf ho
  refine gm r1 (gm r2 (gm r3 ?_))
  rw [redO_eq]
  unfold redS at r4
  exact r4
noncomputable def g40 : List V → List V → Option (Bool × V) := fun vs m => match views [2] vs m with
  | some ([.sl 1 0 8 _], [.tup [.fn 2, .ints .u64 4 o], .tup [.ints .u64 N f]]) => some (Nat.ble 8 N && (uNO 8 f && eqN 4 o ordF), .ints .u64 4 (redO 8 f))
  | some ([.sl 1 0 4 _], [.tup [.fn 2, .ints .u64 4 o], .tup [.ints .u64 N f]]) => some (Nat.ble 4 N && (uNO 4 f && eqN 4 o ordF), .ints .u64 4 (redO 4 f))
  | _ => none
theorem g40_ok (vs m : List V) (v : V) (h : g40 vs m = some (true, v)) : v.flat = true ∧ ∀ μ B w0 w, Under B w0 → Rel μ B w0 m w → PureAt Tryd.prog 40 (vs.map (V.den μ)).toArray (v.den μ) w := by
  unfold g40 at h
  split at h
  · rename_i c o N f hv
    simp only [Option.some.injEq, Prod.mk.injEq, Bool.and_eq_true] at h
    obtain ⟨⟨h1, h2, h3⟩, rfl⟩ := h
    have h1 := bleT.1 h1
    obtain ⟨e, rfl⟩ : ∃ e, N = e + 8 := ⟨N - 8, by omega⟩
    exact ⟨rfl, reads_ok (fn := Tryd.f40) (N := 300) (n := 55) hM q52_ok G47_ok Tryd.func40 (by kernel_rfl) (by kernel_rfl) hv rfl (red8_a h2 h3) (by kernel_rfl)⟩
  · rename_i c o N f hv
    simp only [Option.some.injEq, Prod.mk.injEq, Bool.and_eq_true] at h
    obtain ⟨⟨h1, h2, h3⟩, rfl⟩ := h
    have h1 := bleT.1 h1
    obtain ⟨e, rfl⟩ : ∃ e, N = e + 4 := ⟨N - 4, by omega⟩
    exact ⟨rfl, reads_ok (fn := Tryd.f40) (N := 300) (n := 55) hM q52_ok G47_ok Tryd.func40 (by kernel_rfl) (by kernel_rfl) hv rfl (red4_a h2 h3) (by kernel_rfl)⟩
  · cases h
theorem g40_grow (vs m : List V) (z : V) (r : Bool × V) (h : g40 vs m = some r) : g40 vs (m ++ [z]) = some r := by
  unfold g40 at h ⊢
  cases hv : views [2] vs m with
  | none => rw [hv] at h; cases h
  | some p => rw [hv] at h; rw [views_grow hv]; exact h
noncomputable def p40 : Orc := extM 40 g40 q52
theorem p40_ok : OrcOK Tryd.prog p40 := extM_ok q52_ok g40_ok g40_grow
/- load, store by names that are not unfolded -/
noncomputable def loadO : (Nat → Int) → Nat → Int := Classical.choose (hide_ex loadF)
theorem loadO_eq : loadO = loadF := Classical.choose_spec (hide_ex loadF)
noncomputable def storeO : (Nat → Int) → Nat → Int := Classical.choose (hide_ex storeF)
theorem storeO_eq : storeO = storeF := Classical.choose_spec (hide_ex storeF)
noncomputable def g44O : List V → Option (Bool × V) := fun | [.ints .u8 32 f] => some (true, .ints .u64 4 (loadO f)) | _ => none
theorem g44O_eq : g44O = g44 := by
  funext vs
  unfold g44O g44
  simp only [loadO_eq]
  kernel_rfl
noncomputable def g39O : List V → Option (Bool × V) := fun | [.ints .u64 4 x] => some (true, .ints .u8 32 (storeO x)) | _ => none
theorem g39O_eq : g39O = g39 := by
  funext vs
  unfold g39O g39
  simp only [storeO_eq]
  kernel_rfl
noncomputable def q44 : Orc := ext 44 g44O p40
theorem q44_ok : OrcOK Tryd.prog q44 := by unfold q44; rw [g44O_eq]; exact ext_ok p40_ok g44_ok
noncomputable def q39 : Orc := ext 39 g39O q44
theorem q39_ok : OrcOK Tryd.prog q39 := by unfold q39; rw [g39O_eq]; exact ext_ok q44_ok g39_ok
noncomputable def G48 : GOrc := inl Tryd.prog q39 300 48 Tryd.f48 (inl Tryd.prog q39 300 47 Tryd.f47 noG)
theorem G48_ok : GOrcOK Tryd.prog G48 := inl_ok hM q39_ok (inl_ok hM q39_ok (noG_ok _) Tryd.func47 (by kernel_rfl) (by kernel_rfl)) Tryd.func48 (by kernel_rfl) (by kernel_rfl)
theorem orI_U (a b : Int) : U1 (orI .u64 a b) := by
  unfold orI bits2
  rw [wrap_u64]
  exact ⟨by omega, by omega⟩
theorem ldR_U (f : Nat → Int) (a : Nat) : ∀ k, U1 (ldR f a k)
  | 0 => ⟨by show (0 : Int) ≤ 0; decide, by show (0 : Int) < _; decide⟩
  | k + 1 => orI_U _ _
theorem loadO_U (f : Nat → Int) (j : Nat) : U1 (loadO f j) := by rw [loadO_eq]; exact ldR_U _ _ _
theorem uNO_t {n : Nat} {f : Nat → Int} (h : ∀ j, j < n → U1 (f j)) : uNO n f = true := by rw [uNO_eq]; exact uN_mk h
theorem loadO_uN (f : Nat → Int) : uNO 4 (loadO f) = true := uNO_t fun j _ => loadO_U f j
theorem loadO_u4 (f : Nat → Int) : u4 (loadO f) = true := u4_mk fun j _ => loadO_U f j
theorem mod_t (o : Nat → Int) (a : Nat → Int) : awp Tryd.prog q39 G48 300 (body Tryd.f51) (ends Tryd.prog Tryd.f51 fun v _ => okV (V.ints .u64 4 (redO 4 (loadO a))) v) ⟨[V.ints .u8 32 a] ++ List.replicate 5 V.un, [V.tup [V.fn 2, V.ints .u64 4 o]]⟩ = (gB (Nat.ble 4 4 && (uNO 4 (loadO a) && eqN 4 o ordF)) ((V.ints .u64 4 (redO 4 (loadO a))).den z0 = (V.ints .u64 4 (redO 4 (loadO a))).den z0)) := by kernel_rfl
theorem mod_a (o : Nat → Int) (a : Nat → Int) (ho : eqN 4 o ordF = true) : awp Tryd.prog q39 G48 300 (body Tryd.f51) (ends Tryd.prog Tryd.f51 fun v _ => okV (V.ints .u64 4 (redO 4 (loadO a))) v) ⟨[V.ints .u8 32 a] ++ List.replicate 5 V.un, [V.tup [V.fn 2, V.ints .u64 4 o]]⟩ := by
  rw [mod_t]
  exact (gm (both rfl (both (loadO_uN a) ho)) (rfl))
noncomputable def g51 : List V → List V → Option (Bool × V) := fun vs m => match views [2] vs m with
  | some ([.ints .u8 32 a], [.tup [.fn 2, .ints .u64 4 o]]) => some (eqN 4 o ordF, (V.ints .u64 4 (redO 4 (loadO a))))
  | _ => none
theorem g51_ok (vs m : List V) (v : V) (h : g51 vs m = some (true, v)) : v.flat = true ∧ ∀ μ B w0 w, Under B w0 → Rel μ B w0 m w → PureAt Tryd.prog 51 (vs.map (V.den μ)).toArray (v.den μ) w := by
  unfold g51 at h
  split at h
  · rename_i a o hv
    simp only [Option.some.injEq, Prod.mk.injEq] at h
    obtain ⟨h1, rfl⟩ := h
    refine ⟨rfl, ?_⟩
    exact reads_ok (fn := Tryd.f51) (N := 300) (n := 5) hM q39_ok (G48_ok) Tryd.func51 (by kernel_rfl) (by kernel_rfl) hv rfl (mod_a o a h1) (by kernel_rfl)
  · cases h
theorem g51_grow (vs m : List V) (z : V) (r : Bool × V) (h : g51 vs m = some r) : g51 vs (m ++ [z]) = some r := by
  unfold g51 at h ⊢
  cases hv : views [2] vs m with
  | none => rw [hv] at h; cases h
  | some p => rw [hv] at h; rw [views_grow hv]; exact h
noncomputable def p51 : Orc := extM 51 g51 q39
theorem p51_ok : OrcOK Tryd.prog p51 := extM_ok q39_ok g51_ok g51_grow
end Go.Proofs.YtnoehjibponofaaDoor
