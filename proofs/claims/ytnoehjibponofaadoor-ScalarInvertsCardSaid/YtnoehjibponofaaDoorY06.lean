/-
  A part of the groundwork of this seat's claims: an evaluator over the program, walks, and plain mathematics. Conditions: none.
-/
import Derived.Test.YtnoehjibponofaaDoorY05
/-
  zero and one: contracts. Conditions: none.
-/
namespace Go.Proofs.YtnoehjibponofaaDoor
open Go.Ev Go.Num
set_option linter.unusedVariables false
set_option linter.unusedSimpArgs false
theorem zer_z_s (o n c xN : Nat) (f : Nat → Int) (T : List V) : awq Tryd.prog o41 nG 1 1200 (dropC 1 (body Tryd.f54)) (ends Tryd.prog Tryd.f54 (fun v _ => okV (V.bool (zeO n o f)) v)) ⟨ovr 15 [] [] T, [(V.tup [(V.ints .i64 xN f)])]⟩ = (okV (V.bool (zeO n o f)) (V.bool true)) := by kernel_rfl
abbrev zer_Ka2 (o n : Nat) (f : Nat → Int) : List V → List V → Prop := OkL Tryd.prog 1 15 [] (dropC 1 (body Tryd.f54)) (ends Tryd.prog Tryd.f54 (fun v _ => okV (V.bool (zeO n o f)) v))
theorem zer_z (o n c xN : Nat) (f : Nat → Int) (hx : o + n ≤ xN) (h9 : n ≤ 1000) (hE : ∀ j, j < n → f (o + j) = 0) : (zer_Ka2 o n f) [] [(V.tup [(V.ints .i64 xN f)])] := by
  exact okl_all hM o41_ok nG_ok (N := 1200) (fun T => Eq.mpr (zer_z_s o n c xN f T ) (okV_bool (ze_yes hE).symm))
abbrev zer_Klh (o n : Nat) (f : Nat → Int) (w1 : Nat) : List V → List V → Prop := OkH Tryd.prog 1 15 [0, 3] (lopC (blkC (dropC 0 (takeC 0 (dropC 0 (body Tryd.f54)))))) (blkQ 0 (segQ 15 [] (zer_Ka2 o n f) (ends Tryd.prog Tryd.f54 (fun v _ => okV (V.bool (zeO n o f)) v)))) w1
abbrev zer_Kl2 (o n : Nat) (f : Nat → Int) (w1 : Nat) : List V → List V → Prop := OkL Tryd.prog 1 15 [0, 3] (dropC 1 (lopC (blkC (dropC 0 (takeC 0 (dropC 0 (body Tryd.f54))))))) (segQ 15 [0, 3] (zer_Klh o n f w1) (blkQ 0 (segQ 15 [] (zer_Ka2 o n f) (ends Tryd.prog Tryd.f54 (fun v _ => okV (V.bool (zeO n o f)) v)))))
theorem zer_l2_s (o n c xN : Nat) (f : Nat → Int) (i : Int) (T : List V) (k0 k1 : List V → List V → Prop) : awq Tryd.prog o41 nG 1 1200 (dropC 1 (lopC (blkC (dropC 0 (takeC 0 (dropC 0 (body Tryd.f54))))))) (segQ 15 [0, 3] k0 (blkQ 0 (segQ 15 [] k1 (ends Tryd.prog Tryd.f54 (fun v _ => okV (V.bool (zeO n o f)) v))))) ⟨ovr 15 [0, 3] [(V.sl 0 o n c), (vI i)] T, [(V.tup [(V.ints .i64 xN f)])]⟩ = (k0 [(V.sl 0 o n c), (vI (addI .i64 i 1))] [(V.tup [(V.ints .i64 xN f)])]) := by kernel_rfl
theorem zer_l2 (w1 : Nat) (o n c xN : Nat) (f : Nat → Int) (i : Int) (p : Nat) (hE : ∀ j, j < p + 1 → f (o + j) = 0) (IH : (∀ j, j < p + 1 → f (o + j) = 0) → (zer_Klh o n f w1) [(V.sl 0 o n c), (vI (addI .i64 i 1))] [(V.tup [(V.ints .i64 xN f)])]) : (zer_Kl2 o n f w1) [(V.sl 0 o n c), (vI i)] [(V.tup [(V.ints .i64 xN f)])] := by
  exact okl_all hM o41_ok nG_ok (N := 1200) (fun T => Eq.mpr (zer_l2_s o n c xN f i T (zer_Klh o n f w1) (zer_Ka2 o n f)) (IH hE))
theorem zer_c0_s (o n c xN : Nat) (f : Nat → Int) (i : Int) (T : List V) (k0 k1 k2 : List V → List V → Prop) : awq Tryd.prog o41 nG 1 1200 (blkC (takeC 0 (dropC 0 (lopC (blkC (dropC 0 (takeC 0 (dropC 0 (body Tryd.f54))))))))) (blkQ 1 (segQ 15 [0, 3] k0 (segQ 15 [0, 3] k1 (blkQ 0 (segQ 15 [] k2 (ends Tryd.prog Tryd.f54 (fun v _ => okV (V.bool (zeO n o f)) v))))))) ⟨ovr 15 [0, 3] [(V.sl 0 o n c), (vI i)] T, [(V.tup [(V.ints .i64 xN f)])]⟩ = (gB (decide (0 ≤ i ∧ i < n)) (gB (Nat.blt (o + (Int.toNat i * 1)) xN) (mB ((f (o + (Int.toNat i * 1))) != 0) (okV (V.bool (zeO n o f)) (V.bool false)) (k0 [(V.sl 0 o n c), (vI i)] [(V.tup [(V.ints .i64 xN f)])])))) := by kernel_rfl
abbrev zer_Kc0 (o n : Nat) (f : Nat → Int) (w1 : Nat) : List V → List V → Prop := OkL Tryd.prog 1 15 [0, 3] (blkC (takeC 0 (dropC 0 (lopC (blkC (dropC 0 (takeC 0 (dropC 0 (body Tryd.f54))))))))) (blkQ 1 (segQ 15 [0, 3] (zer_Kl2 o n f w1) (segQ 15 [0, 3] (zer_Klh o n f w1) (blkQ 0 (segQ 15 [] (zer_Ka2 o n f) (ends Tryd.prog Tryd.f54 (fun v _ => okV (V.bool (zeO n o f)) v)))))))
theorem zer_c0 (w1 : Nat) (o n c xN : Nat) (f : Nat → Int) (i : Int) (hx : o + n ≤ xN) (h9 : n ≤ 1000) (p : Nat) (hi : i = (p : Int)) (hE : ∀ j, j < p → f (o + j) = 0) (hp : p < n) (IH : (∀ j, j < p + 1 → f (o + j) = 0) → (zer_Klh o n f w1) [(V.sl 0 o n c), (vI (addI .i64 i 1))] [(V.tup [(V.ints .i64 xN f)])]) : (zer_Kc0 o n f w1) [(V.sl 0 o n c), (vI i)] [(V.tup [(V.ints .i64 xN f)])] := by
  have hx1 : o + (Int.toNat i * 1) = o + p := by rw [hi, Int.toNat_natCast]; omega
  have hstep : f (o + p) = 0 → ∀ j, j < p + 1 → f (o + j) = 0 := fun e0 j hj => by
    by_cases e : j = p
    · subst e; exact e0
    · exact hE j (by omega)
  exact okl_all hM o41_ok nG_ok (N := 1200) (fun T => Eq.mpr (zer_c0_s o n c xN f i T (zer_Kl2 o n f w1) (zer_Klh o n f w1) (zer_Ka2 o n f)) (gm (decide_eq_true (by omega)) (gm (bltT.2 (by omega)) (mBt (fun h0 => (okV_bool (ze_no hp (by have := h0; rw [hx1] at this; simpa using this)).symm)) (fun h0 => (zer_l2 w1 o n c xN f i p (hstep (by have := h0; rw [hx1] at this; simpa using this)) IH))))))
theorem zer_h_s (o n c xN : Nat) (f : Nat → Int) (i : Int) (T : List V) (kk k0 k1 : List V → List V → Prop) : awq Tryd.prog o41 nG 1 1200 (takeC 0 (lopC (blkC (dropC 0 (takeC 0 (dropC 0 (body Tryd.f54))))))) (segQ 15 [0, 3] kk (segQ 15 [0, 3] k0 (blkQ 0 (segQ 15 [] k1 (ends Tryd.prog Tryd.f54 (fun v _ => okV (V.bool (zeO n o f)) v)))))) ⟨ovr 15 [0, 3] [(V.sl 0 o n c), (vI i)] T, [(V.tup [(V.ints .i64 xN f)])]⟩ = (mB (decide (i < ((n : Nat) : Int))) (kk [(V.sl 0 o n c), (vI i)] [(V.tup [(V.ints .i64 xN f)])]) (k1 [] [(V.tup [(V.ints .i64 xN f)])])) := by kernel_rfl
abbrev zer_Kl1 (o n : Nat) (f : Nat → Int) (w1 : Nat) : List V → List V → Prop := OkL Tryd.prog 1 15 [0, 3] (dropC 0 (lopC (blkC (dropC 0 (takeC 0 (dropC 0 (body Tryd.f54))))))) (segQ 15 [0, 3] (zer_Klh o n f w1) (blkQ 0 (segQ 15 [] (zer_Ka2 o n f) (ends Tryd.prog Tryd.f54 (fun v _ => okV (V.bool (zeO n o f)) v)))))
theorem zer_h (w1 : Nat) (o n c xN : Nat) (f : Nat → Int) (i : Int) (hx : o + n ≤ xN) (h9 : n ≤ 1000) (p : Nat) (hi : i = (p : Int)) (hE : ∀ j, j < p → f (o + j) = 0) (hp : p ≤ n) (IHH : p < n → (∀ j, j < p + 1 → f (o + j) = 0) → (zer_Klh o n f w1) [(V.sl 0 o n c), (vI (addI .i64 i 1))] [(V.tup [(V.ints .i64 xN f)])]) : (zer_Klh o n f (w1 + 1)) [(V.sl 0 o n c), (vI i)] [(V.tup [(V.ints .i64 xN f)])] := by
  exact okh_round (okl_seg hM o41_ok nG_ok (N := 1200) 0 (by kernel_rfl) (show dropC 0 (lopC (blkC (dropC 0 (takeC 0 (dropC 0 (body Tryd.f54)))))) = (dropC 0 (lopC (blkC (dropC 0 (takeC 0 (dropC 0 (body Tryd.f54))))))) by kernel_rfl)  (fun T => Eq.mpr (zer_h_s o n c xN f i T (zer_Kl1 o n f w1) (zer_Klh o n f w1) (zer_Ka2 o n f)) (mBt (fun h0 => have g0 := of_decide_eq_true h0; (okl_fst (by kernel_rfl) rfl (by kernel_rfl) (okl_blk (id := 1) (d := (blkC (takeC 0 (dropC 0 (lopC (blkC (dropC 0 (takeC 0 (dropC 0 (body Tryd.f54)))))))))) (by kernel_rfl) (zer_c0 w1 o n c xN f i hx h9 p hi hE (by omega) (IHH (by omega)))))) (fun h0 => have g0 := of_decide_eq_false h0; (zer_z o n c xN f hx h9 (fun j hj => hE j (by omega)))))))
theorem zer_hd (o n c xN : Nat) (f : Nat → Int) (hx : o + n ≤ xN) (h9 : n ≤ 1000) : ∀ (w1 p : Nat) (i : Int), p + w1 = n → i = (p : Int) → (∀ j, j < p → f (o + j) = 0) → (zer_Klh o n f (w1 + 1)) [(V.sl 0 o n c), (vI i)] [(V.tup [(V.ints .i64 xN f)])]
  | 0, p, i, hp, hi, hE => zer_h 0 o n c xN f i hx h9 p hi hE (by omega) (fun h => absurd h (by omega))
  | w1 + 1, p, i, hp, hi, hE => zer_h (w1 + 1) o n c xN f i hx h9 p hi hE (by omega) (fun _ hE => zer_hd o n c xN f hx h9 w1 (p + 1) _ (by omega) (by rw [hi]; exact add1_nat p (by omega)) hE)
theorem zer_i0_s (o n c xN : Nat) (f : Nat → Int) (T : List V) (kk k0 : List V → List V → Prop) : awq Tryd.prog o41 nG 1 1200 (takeC 0 (takeC 0 (dropC 0 (body Tryd.f54)))) (segQ 15 [0, 3] kk (segQ 15 [] k0 (ends Tryd.prog Tryd.f54 (fun v _ => okV (V.bool (zeO n o f)) v)))) ⟨ovr 15 [0] [(V.sl 0 o n c)] T, [(V.tup [(V.ints .i64 xN f)])]⟩ = (kk [(V.sl 0 o n c), (vI 0)] [(V.tup [(V.ints .i64 xN f)])]) := by kernel_rfl
abbrev zer_Ks0 (o n : Nat) (f : Nat → Int) : List V → List V → Prop := OkL Tryd.prog 1 15 [0] (takeC 0 (dropC 0 (body Tryd.f54))) (segQ 15 [] (zer_Ka2 o n f) (ends Tryd.prog Tryd.f54 (fun v _ => okV (V.bool (zeO n o f)) v)))
abbrev zer_Ks1 (o n : Nat) (f : Nat → Int) : List V → List V → Prop := OkL Tryd.prog 1 15 [0, 3] (dropC 0 (takeC 0 (dropC 0 (body Tryd.f54)))) (segQ 15 [] (zer_Ka2 o n f) (ends Tryd.prog Tryd.f54 (fun v _ => okV (V.bool (zeO n o f)) v)))
theorem zer_i0 (o n c xN : Nat) (f : Nat → Int) (hx : o + n ≤ xN) (h9 : n ≤ 1000) : (zer_Ks0 o n f) [(V.sl 0 o n c)] [(V.tup [(V.ints .i64 xN f)])] := by
  exact okl_seg hM o41_ok nG_ok (N := 1200) 0 (by kernel_rfl) (show dropC 0 (takeC 0 (dropC 0 (body Tryd.f54))) = (dropC 0 (takeC 0 (dropC 0 (body Tryd.f54)))) by kernel_rfl) (fun T => Eq.mpr (zer_i0_s o n c xN f T (zer_Ks1 o n f) (zer_Ka2 o n f)) (okl_blk (id := 0) (d := (blkC (dropC 0 (takeC 0 (dropC 0 (body Tryd.f54)))))) (by kernel_rfl) (okl_loop (n + 1) (by kernel_rfl) (zer_hd o n c xN f hx h9 n 0 0 (by omega) rfl (fun j hj => by omega)))))
theorem zer_s_s (o n c xN : Nat) (f : Nat → Int) (T : List V) (kk : List V → List V → Prop) : awq Tryd.prog o41 nG 1 1200 (takeC 0 (body Tryd.f54)) (segQ 15 [0] kk (ends Tryd.prog Tryd.f54 (fun v _ => okV (V.bool (zeO n o f)) v))) ⟨ovr 15 [0] [(V.sl 0 o n c)] T, [(V.tup [(V.ints .i64 xN f)])]⟩ = (kk [(V.sl 0 o n c)] [(V.tup [(V.ints .i64 xN f)])]) := by kernel_rfl
abbrev zer_Ka0 (o n : Nat) (f : Nat → Int) : List V → List V → Prop := OkL Tryd.prog 1 15 [0] (body Tryd.f54) (ends Tryd.prog Tryd.f54 (fun v _ => okV (V.bool (zeO n o f)) v))
abbrev zer_Ka1 (o n : Nat) (f : Nat → Int) : List V → List V → Prop := OkL Tryd.prog 1 15 [0] (dropC 0 (body Tryd.f54)) (ends Tryd.prog Tryd.f54 (fun v _ => okV (V.bool (zeO n o f)) v))
theorem zer_all (o n c xN : Nat) (f : Nat → Int) (hx : o + n ≤ xN) (h9 : n ≤ 1000) : (zer_Ka0 o n f) [(V.sl 0 o n c)] [(V.tup [(V.ints .i64 xN f)])] := by
  exact okl_seg hM o41_ok nG_ok (N := 1200) 0 (by kernel_rfl) (show dropC 0 (body Tryd.f54) = (dropC 0 (body Tryd.f54)) by kernel_rfl) (fun T => Eq.mpr (zer_s_s o n c xN f T (zer_Ka1 o n f)) (okl_fst (by kernel_rfl) rfl (by kernel_rfl) (zer_i0 o n c xN f hx h9)))
noncomputable def g54 : List V → List V → Option (Bool × V) := fun vs m => match views [] vs m with
  | some ([.sl 0 0 n c], [.tup [.ints .i64 xN f]]) => some (Nat.ble (0 + n) xN && Nat.ble n 1000, .bool (zeO n 0 f))
  | _ => none
theorem g54_ok (vs m : List V) (v : V) (h : g54 vs m = some (true, v)) : v.flat = true ∧ ∀ μ B w0 w, Under B w0 → Rel μ B w0 m w → PureAt Tryd.prog 54 (vs.map (V.den μ)).toArray (v.den μ) w := by
  unfold g54 at h
  split at h
  · rename_i n c xN f hv
    simp only [Option.some.injEq, Prod.mk.injEq, Bool.and_eq_true, true_and] at h
    obtain ⟨hg, rfl⟩ := h
    refine ⟨rfl, ?_⟩
    exact reads_okl Tryd.func54 (by kernel_rfl) (by kernel_rfl) hv rfl (zer_all 0 n c xN f (bleT.1 hg.1) (bleT.1 hg.2)) (Nat.le_of_ble_eq_true (by kernel_rfl)) (by kernel_rfl) rfl
  · cases h
theorem g54_grow (vs m : List V) (z : V) (r : Bool × V) (h : g54 vs m = some r) : g54 vs (m ++ [z]) = some r := by
  unfold g54 at h ⊢
  cases hv : views [] vs m with
  | none => rw [hv] at h; cases h
  | some p => rw [hv] at h; rw [views_grow hv]; exact h
noncomputable def o54 : Orc := extM 54 g54 o41
theorem o54_ok : OrcOK Tryd.prog o54 := extM_ok o41_ok g54_ok g54_grow
theorem slo_1 {c : Nat} (h : 33 ≤ c) : slo c 1 1 = 1 := by unfold slo; rw [show Nat.beq 1 0 = false from rfl, show Nat.beq c 1 = false from ff beqT (by omega)]; rfl
theorem at0 (f : Nat → Int) : atF 33 f 0 = f 0 := rfl
theorem on_a {c : Nat} {f : Nat → Int} (hs : slo c 1 1 = 1) (h : (atF 33 f 0 == 1) = true) : zeO (33 - 1) 0 (sh (0 + (slo c 1 1)) f) = onO 32 f := by
  rw [at0] at h
  rw [hs, onO_eq, zeO_eq]; unfold onB; rw [h, Bool.true_and]
  unfold zeB
  rw [decide_eq_decide]
  have e : ∀ j, sh (0 + 1) f (0 + j) = f (1 + j) := fun j => by rw [Nat.zero_add, Nat.zero_add]; exact sh_at 1 f j
  exact ⟨fun h j hj => by rw [← e]; exact h j hj, fun h j hj => by rw [e]; exact h j hj⟩
theorem on_b {f : Nat → Int} (h : (atF 33 f 0 == 1) = false) : false = onO 32 f := by rw [at0] at h; rw [onO_eq]; unfold onB; rw [h]; rfl
theorem one_s_s (c xN : Nat) (f : Nat → Int) (T : List V) : awq Tryd.prog o54 nG 1 1200 (body Tryd.f56) (ends Tryd.prog Tryd.f56 (fun v _ => okV (V.bool (onO 32 f)) v)) ⟨ovr 11 [0] [(vS 0 33 c)] T, [(V.tup [(V.ints .i64 xN f)])]⟩ = (gB (Nat.ble 33 (xN - 0) && decide ((0 : Int) ≤ 0)) (mB ((atF 33 f 0) == 1) (gB (decide (0 ≤ (1 : Int) ∧ (1 : Int) ≤ (33 : Int) ∧ (33 : Int) ≤ ((c : Nat) : Int))) (gB (Nat.ble (0 + (33 - 1)) (xN - (0 + (slo c 1 1))) && Nat.ble (33 - 1) 1000) (okV (V.bool (onO 32 f)) (V.bool (zeO (33 - 1) 0 (sh (0 + (slo c 1 1)) f)))))) (okV (V.bool (onO 32 f)) (V.bool false)))) := by kernel_rfl
abbrev one_Ka0 (f : Nat → Int) : List V → List V → Prop := OkL Tryd.prog 1 11 [0] (body Tryd.f56) (ends Tryd.prog Tryd.f56 (fun v _ => okV (V.bool (onO 32 f)) v))
theorem one_all (c xN : Nat) (f : Nat → Int) (hx : 33 ≤ xN) (hc : 33 ≤ c) : (one_Ka0 f) [(vS 0 33 c)] [(V.tup [(V.ints .i64 xN f)])] := by
  have hs : slo c 1 1 = 1 := slo_1 hc
  exact okl_all hM o54_ok nG_ok (N := 1200) (fun T => Eq.mpr (one_s_s c xN f T ) (gm (both (bleT.2 (by first | omega | (rw [hs]; omega))) (decide_eq_true (by first | omega | (rw [hs]; omega)))) (mBt (fun h0 => (gm (decide_eq_true (by first | omega | (rw [hs]; omega))) (gm (both (bleT.2 (by first | omega | (rw [hs]; omega))) (bleT.2 (by first | omega | (rw [hs]; omega)))) (okV_bool (on_a hs h0))))) (fun h0 => (okV_bool (on_b h0))))))
noncomputable def g56 : List V → List V → Option (Bool × V) := fun vs m => match views [] vs m with
  | some ([.sl 0 0 33 c], [.tup [.ints .i64 xN f]]) => some (Nat.ble 33 xN && Nat.ble 33 c, .bool (onO 32 f))
  | _ => none
theorem g56_ok (vs m : List V) (v : V) (h : g56 vs m = some (true, v)) : v.flat = true ∧ ∀ μ B w0 w, Under B w0 → Rel μ B w0 m w → PureAt Tryd.prog 56 (vs.map (V.den μ)).toArray (v.den μ) w := by
  unfold g56 at h
  split at h
  · rename_i c xN f hv
    simp only [Option.some.injEq, Prod.mk.injEq, Bool.and_eq_true, true_and] at h
    obtain ⟨hg, rfl⟩ := h
    refine ⟨rfl, ?_⟩
    exact reads_okl Tryd.func56 (by kernel_rfl) (by kernel_rfl) hv rfl (one_all c xN f (bleT.1 hg.1) (bleT.1 hg.2)) (Nat.le_of_ble_eq_true (by kernel_rfl)) (by kernel_rfl) rfl
  · cases h
theorem g56_grow (vs m : List V) (z : V) (r : Bool × V) (h : g56 vs m = some r) : g56 vs (m ++ [z]) = some r := by
  unfold g56 at h ⊢
  cases hv : views [] vs m with
  | none => rw [hv] at h; cases h
  | some p => rw [hv] at h; rw [views_grow hv]; exact h
noncomputable def o56 : Orc := extM 56 g56 o54
theorem o56_ok : OrcOK Tryd.prog o56 := extM_ok o54_ok g56_ok g56_grow
end Go.Proofs.YtnoehjibponofaaDoor

/-
  half: a contract. Conditions: none.
-/
namespace Go.Proofs.YtnoehjibponofaaDoor
open Go.Ev Go.Num
set_option linter.unusedVariables false
set_option linter.unusedSimpArgs false
def hlO2 (f : Nat → Int) (res : Nat → V) (c : V) : Prop := ∃ h, (By 33 h ∧ dv 256 33 h = dv 256 33 f / 2) ∧ res = (fun id => .sl id 0 33 33) ∧ c = .ints .i64 33 h
abbrev hlK (f : Nat → Int) : V → List V → Prop := out0 (fun _ => False) (hlO2 f)
theorem hlf_z_s (c xN : Nat) (f : Nat → Int) (hh : Nat → Int) (T : List V) : awq Tryd.prog o56 nG 1 1200 (dropC 2 (body Tryd.f68)) (ends Tryd.prog Tryd.f68 ((hlK f))) ⟨ovr 30 [3] [(vS 1 33 33)] T, [(V.tup [(V.ints .i64 xN f)]), (V.ints .i64 33 hh)]⟩ = ((hlK f) (V.sl 1 0 33 33) [(V.tup [(V.ints .i64 xN f)]), (V.ints .i64 33 hh)]) := by kernel_rfl
abbrev hlf_Ka3 (f : Nat → Int) : List V → List V → Prop := OkL Tryd.prog 1 30 [3] (dropC 2 (body Tryd.f68)) (ends Tryd.prog Tryd.f68 ((hlK f)))
theorem hlf_z (c xN : Nat) (f : Nat → Int) (hh : Nat → Int) (hx : 33 ≤ xN) (hf : By 33 f) (hE : ∀ j, j < 33 → hh j = f j / 2 + 128 * (atN 33 f (j + 1) % 2)) : (hlf_Ka3 f) [(vS 1 33 33)] [(V.tup [(V.ints .i64 xN f)]), (V.ints .i64 33 hh)] := by
  exact okl_all hM o56_ok nG_ok (N := 1200) (fun T => Eq.mpr (hlf_z_s c xN f hh T ) (.inr ⟨1, _, _, ⟨_, ⟨(hl_num hf (by omega) hE).1, (hl_num hf (by omega) hE).2.1⟩, rfl, rfl⟩, rfl, rfl⟩))
abbrev hlf_Klh (f : Nat → Int) (w1 : Nat) : List V → List V → Prop := OkH Tryd.prog 1 30 [0, 3, 4] (lopC (blkC (dropC 0 (takeC 0 (dropC 1 (body Tryd.f68)))))) (blkQ 0 (segQ 30 [3] (hlf_Ka3 f) (ends Tryd.prog Tryd.f68 ((hlK f))))) w1
abbrev hlf_Kl2 (f : Nat → Int) (w1 : Nat) : List V → List V → Prop := OkL Tryd.prog 1 30 [0, 3, 4] (dropC 1 (lopC (blkC (dropC 0 (takeC 0 (dropC 1 (body Tryd.f68))))))) (segQ 30 [0, 3, 4] (hlf_Klh f w1) (blkQ 0 (segQ 30 [3] (hlf_Ka3 f) (ends Tryd.prog Tryd.f68 ((hlK f))))))
theorem hlf_l2_s (c xN : Nat) (f : Nat → Int) (hh : Nat → Int) (i : Int) (T : List V) (k0 k1 : List V → List V → Prop) : awq Tryd.prog o56 nG 1 1200 (dropC 1 (lopC (blkC (dropC 0 (takeC 0 (dropC 1 (body Tryd.f68))))))) (segQ 30 [0, 3, 4] k0 (blkQ 0 (segQ 30 [3] k1 (ends Tryd.prog Tryd.f68 ((hlK f)))))) ⟨ovr 30 [0, 3, 4] [(vS 0 33 c), (vS 1 33 33), (vI i)] T, [(V.tup [(V.ints .i64 xN f)]), (V.ints .i64 33 hh)]⟩ = (k0 [(vS 0 33 c), (vS 1 33 33), (vI (addI .i64 i 1))] [(V.tup [(V.ints .i64 xN f)]), (V.ints .i64 33 hh)]) := by kernel_rfl
theorem hlf_l2 (w1 : Nat) (c xN : Nat) (f : Nat → Int) (hh : Nat → Int) (i : Int) (p : Nat) (hE : ∀ j, j < p + 1 → hh j = f j / 2 + 128 * (atN 33 f (j + 1) % 2)) (IH : ∀ (hh : Nat → Int), (∀ j, j < p + 1 → hh j = f j / 2 + 128 * (atN 33 f (j + 1) % 2)) → (hlf_Klh f w1) [(vS 0 33 c), (vS 1 33 33), (vI (addI .i64 i 1))] [(V.tup [(V.ints .i64 xN f)]), (V.ints .i64 33 hh)]) : (hlf_Kl2 f w1) [(vS 0 33 c), (vS 1 33 33), (vI i)] [(V.tup [(V.ints .i64 xN f)]), (V.ints .i64 33 hh)] := by
  exact okl_all hM o56_ok nG_ok (N := 1200) (fun T => Eq.mpr (hlf_l2_s c xN f hh i T (hlf_Klh f w1) (hlf_Ka3 f)) (IH hh hE))
theorem hlf_c0_s (c xN : Nat) (f : Nat → Int) (hh : Nat → Int) (i : Int) (T : List V) (k0 k1 k2 : List V → List V → Prop) : awq Tryd.prog o56 nG 1 1200 (blkC (takeC 0 (dropC 0 (lopC (blkC (dropC 0 (takeC 0 (dropC 1 (body Tryd.f68))))))))) (blkQ 1 (segQ 30 [0, 3, 4] k0 (segQ 30 [0, 3, 4] k1 (blkQ 0 (segQ 30 [3] k2 (ends Tryd.prog Tryd.f68 ((hlK f)))))))) ⟨ovr 30 [0, 3, 4] [(vS 0 33 c), (vS 1 33 33), (vI i)] T, [(V.tup [(V.ints .i64 xN f)]), (V.ints .i64 33 hh)]⟩ = (gB (decide (0 ≤ i ∧ i < 33)) (gB (Nat.blt (0 + (Int.toNat i * 1)) xN) (gB (Nat.ble 33 (xN - 0) && decide ((0 : Int) ≤ (addI .i64 i 1))) (gB (decide (0 ≤ i ∧ i < 33)) (gB (Nat.blt (0 + (Int.toNat i * 1)) 33) (k0 [(vS 0 33 c), (vS 1 33 33), (vI i)] [(V.tup [(V.ints .i64 xN f)]), (V.ints .i64 33 (up (0 + (Int.toNat i * 1)) (addI .i64 (quoI .i64 (f (0 + (Int.toNat i * 1))) 2) (mulI .i64 128 (remI (atF 33 f (addI .i64 i 1)) 2))) hh))])))))) := by kernel_rfl
abbrev hlf_Kc0 (f : Nat → Int) (w1 : Nat) : List V → List V → Prop := OkL Tryd.prog 1 30 [0, 3, 4] (blkC (takeC 0 (dropC 0 (lopC (blkC (dropC 0 (takeC 0 (dropC 1 (body Tryd.f68))))))))) (blkQ 1 (segQ 30 [0, 3, 4] (hlf_Kl2 f w1) (segQ 30 [0, 3, 4] (hlf_Klh f w1) (blkQ 0 (segQ 30 [3] (hlf_Ka3 f) (ends Tryd.prog Tryd.f68 ((hlK f))))))))
theorem hlf_c0 (w1 : Nat) (c xN : Nat) (f : Nat → Int) (hh : Nat → Int) (i : Int) (hx : 33 ≤ xN) (hf : By 33 f) (p : Nat) (hi : i = (p : Int)) (hE : ∀ j, j < p → hh j = f j / 2 + 128 * (atN 33 f (j + 1) % 2)) (hp : p < 33) (IH : ∀ (hh : Nat → Int), (∀ j, j < p + 1 → hh j = f j / 2 + 128 * (atN 33 f (j + 1) % 2)) → (hlf_Klh f w1) [(vS 0 33 c), (vS 1 33 33), (vI (addI .i64 i 1))] [(V.tup [(V.ints .i64 xN f)]), (V.ints .i64 33 hh)]) : (hlf_Kc0 f w1) [(vS 0 33 c), (vS 1 33 33), (vI i)] [(V.tup [(V.ints .i64 xN f)]), (V.ints .i64 33 hh)] := by
  have hx1 : 0 + (Int.toNat i * 1) = p := by rw [hi]; exact ix p
  have hadd : addI .i64 i 1 = ((p + 1 : Nat) : Int) := by rw [hi]; exact add1_nat p (by omega)
  have hstep : ∀ j, j < p + 1 → up (0 + (Int.toNat i * 1)) (addI .i64 (quoI .i64 (f (0 + (Int.toNat i * 1))) 2) (mulI .i64 128 (remI (atF 33 f (addI .i64 i 1)) 2))) hh j = f j / 2 + 128 * (atN 33 f (j + 1) % 2) := fun j hj => by
    rw [hx1, hadd, show atF 33 f ((p + 1 : Nat) : Int) = atN 33 f (p + 1) from rfl, hl_at hf hp]
    by_cases e : j = p
    · subst e; rw [up_same]
    · rw [up_ne _ _ e]; exact hE j (by omega)
  exact okl_all hM o56_ok nG_ok (N := 1200) (fun T => Eq.mpr (hlf_c0_s c xN f hh i T (hlf_Kl2 f w1) (hlf_Klh f w1) (hlf_Ka3 f)) (gm (decide_eq_true (by omega)) (gm (bltT.2 (by omega)) (gm (both (bleT.2 (by omega)) (decide_eq_true (by omega))) (gm (decide_eq_true (by omega)) (gm (bltT.2 (by omega)) (hlf_l2 w1 c xN f (up (0 + (Int.toNat i * 1)) (addI .i64 (quoI .i64 (f (0 + (Int.toNat i * 1))) 2) (mulI .i64 128 (remI (atF 33 f (addI .i64 i 1)) 2))) hh) i p hstep IH)))))))
theorem hlf_h_s (c xN : Nat) (f : Nat → Int) (hh : Nat → Int) (i : Int) (T : List V) (kk k0 k1 : List V → List V → Prop) : awq Tryd.prog o56 nG 1 1200 (takeC 0 (lopC (blkC (dropC 0 (takeC 0 (dropC 1 (body Tryd.f68))))))) (segQ 30 [0, 3, 4] kk (segQ 30 [0, 3, 4] k0 (blkQ 0 (segQ 30 [3] k1 (ends Tryd.prog Tryd.f68 ((hlK f))))))) ⟨ovr 30 [0, 3, 4] [(vS 0 33 c), (vS 1 33 33), (vI i)] T, [(V.tup [(V.ints .i64 xN f)]), (V.ints .i64 33 hh)]⟩ = (mB (decide (i < 33)) (kk [(vS 0 33 c), (vS 1 33 33), (vI i)] [(V.tup [(V.ints .i64 xN f)]), (V.ints .i64 33 hh)]) (k1 [(vS 1 33 33)] [(V.tup [(V.ints .i64 xN f)]), (V.ints .i64 33 hh)])) := by kernel_rfl
abbrev hlf_Kl1 (f : Nat → Int) (w1 : Nat) : List V → List V → Prop := OkL Tryd.prog 1 30 [0, 3, 4] (dropC 0 (lopC (blkC (dropC 0 (takeC 0 (dropC 1 (body Tryd.f68))))))) (segQ 30 [0, 3, 4] (hlf_Klh f w1) (blkQ 0 (segQ 30 [3] (hlf_Ka3 f) (ends Tryd.prog Tryd.f68 ((hlK f))))))
theorem hlf_h (w1 : Nat) (c xN : Nat) (f : Nat → Int) (hh : Nat → Int) (i : Int) (hx : 33 ≤ xN) (hf : By 33 f) (p : Nat) (hi : i = (p : Int)) (hE : ∀ j, j < p → hh j = f j / 2 + 128 * (atN 33 f (j + 1) % 2)) (hp : p ≤ 33) (IHH : p < 33 → ∀ (hh : Nat → Int), (∀ j, j < p + 1 → hh j = f j / 2 + 128 * (atN 33 f (j + 1) % 2)) → (hlf_Klh f w1) [(vS 0 33 c), (vS 1 33 33), (vI (addI .i64 i 1))] [(V.tup [(V.ints .i64 xN f)]), (V.ints .i64 33 hh)]) : (hlf_Klh f (w1 + 1)) [(vS 0 33 c), (vS 1 33 33), (vI i)] [(V.tup [(V.ints .i64 xN f)]), (V.ints .i64 33 hh)] := by
  exact okh_round (okl_seg hM o56_ok nG_ok (N := 1200) 0 (by kernel_rfl) (show dropC 0 (lopC (blkC (dropC 0 (takeC 0 (dropC 1 (body Tryd.f68)))))) = (dropC 0 (lopC (blkC (dropC 0 (takeC 0 (dropC 1 (body Tryd.f68))))))) by kernel_rfl)  (fun T => Eq.mpr (hlf_h_s c xN f hh i T (hlf_Kl1 f w1) (hlf_Klh f w1) (hlf_Ka3 f)) (mBt (fun h0 => have g0 := of_decide_eq_true h0; (okl_fst (by kernel_rfl) rfl (by kernel_rfl) (okl_blk (id := 1) (d := (blkC (takeC 0 (dropC 0 (lopC (blkC (dropC 0 (takeC 0 (dropC 1 (body Tryd.f68)))))))))) (by kernel_rfl) (hlf_c0 w1 c xN f hh i hx hf p hi hE (by omega) (IHH (by omega)))))) (fun h0 => have g0 := of_decide_eq_false h0; (hlf_z c xN f hh hx hf (fun j hj => hE j (by omega)))))))
theorem hlf_hd (c xN : Nat) (f : Nat → Int) (hx : 33 ≤ xN) (hf : By 33 f) : ∀ (w1 p : Nat) (hh : Nat → Int) (i : Int), p + w1 = 33 → i = (p : Int) → (∀ j, j < p → hh j = f j / 2 + 128 * (atN 33 f (j + 1) % 2)) → (hlf_Klh f (w1 + 1)) [(vS 0 33 c), (vS 1 33 33), (vI i)] [(V.tup [(V.ints .i64 xN f)]), (V.ints .i64 33 hh)]
  | 0, p, hh, i, hp, hi, hE => hlf_h 0 c xN f hh i hx hf p hi hE (by omega) (fun h => absurd h (by omega))
  | w1 + 1, p, hh, i, hp, hi, hE => hlf_h (w1 + 1) c xN f hh i hx hf p hi hE (by omega) (fun _ hh hE => hlf_hd c xN f hx hf w1 (p + 1) hh _ (by omega) (by rw [hi]; exact add1_nat p (by omega)) hE)
theorem hlf_i0_s (c xN : Nat) (f : Nat → Int) (hh : Nat → Int) (T : List V) (kk k0 : List V → List V → Prop) : awq Tryd.prog o56 nG 1 1200 (takeC 0 (takeC 0 (dropC 1 (body Tryd.f68)))) (segQ 30 [0, 3, 4] kk (segQ 30 [3] k0 (ends Tryd.prog Tryd.f68 ((hlK f))))) ⟨ovr 30 [0, 3] [(vS 0 33 c), (vS 1 33 33)] T, [(V.tup [(V.ints .i64 xN f)]), (V.ints .i64 33 hh)]⟩ = (kk [(vS 0 33 c), (vS 1 33 33), (vI 0)] [(V.tup [(V.ints .i64 xN f)]), (V.ints .i64 33 hh)]) := by kernel_rfl
abbrev hlf_Ks0 (f : Nat → Int) : List V → List V → Prop := OkL Tryd.prog 1 30 [0, 3] (takeC 0 (dropC 1 (body Tryd.f68))) (segQ 30 [3] (hlf_Ka3 f) (ends Tryd.prog Tryd.f68 ((hlK f))))
abbrev hlf_Ks1 (f : Nat → Int) : List V → List V → Prop := OkL Tryd.prog 1 30 [0, 3, 4] (dropC 0 (takeC 0 (dropC 1 (body Tryd.f68)))) (segQ 30 [3] (hlf_Ka3 f) (ends Tryd.prog Tryd.f68 ((hlK f))))
theorem hlf_i0 (c xN : Nat) (f : Nat → Int) (hh : Nat → Int) (hx : 33 ≤ xN) (hf : By 33 f) : (hlf_Ks0 f) [(vS 0 33 c), (vS 1 33 33)] [(V.tup [(V.ints .i64 xN f)]), (V.ints .i64 33 hh)] := by
  exact okl_seg hM o56_ok nG_ok (N := 1200) 0 (by kernel_rfl) (show dropC 0 (takeC 0 (dropC 1 (body Tryd.f68))) = (dropC 0 (takeC 0 (dropC 1 (body Tryd.f68)))) by kernel_rfl) (fun T => Eq.mpr (hlf_i0_s c xN f hh T (hlf_Ks1 f) (hlf_Ka3 f)) (okl_blk (id := 0) (d := (blkC (dropC 0 (takeC 0 (dropC 1 (body Tryd.f68)))))) (by kernel_rfl) (okl_loop (33 + 1) (by kernel_rfl) (hlf_hd c xN f hx hf 33 0 hh 0 (by omega) rfl (fun j hj => by omega)))))
theorem hlf_s_s (c xN : Nat) (f : Nat → Int) (T : List V) (kk : List V → List V → Prop) : awq Tryd.prog o56 nG 1 1200 (takeC 1 (body Tryd.f68)) (segQ 30 [0, 3] kk (ends Tryd.prog Tryd.f68 ((hlK f)))) ⟨ovr 30 [0] [(vS 0 33 c)] T, [(V.tup [(V.ints .i64 xN f)])]⟩ = (kk [(vS 0 33 c), (vS 1 33 33)] [(V.tup [(V.ints .i64 xN f)]), (V.ints .i64 33 (fun _ => 0))]) := by kernel_rfl
abbrev hlf_Ka0 (f : Nat → Int) : List V → List V → Prop := OkL Tryd.prog 1 30 [0] (body Tryd.f68) (ends Tryd.prog Tryd.f68 ((hlK f)))
abbrev hlf_Ka2 (f : Nat → Int) : List V → List V → Prop := OkL Tryd.prog 1 30 [0, 3] (dropC 1 (body Tryd.f68)) (ends Tryd.prog Tryd.f68 ((hlK f)))
theorem hlf_all (c xN : Nat) (f : Nat → Int) (hx : 33 ≤ xN) (hf : By 33 f) : (hlf_Ka0 f) [(vS 0 33 c)] [(V.tup [(V.ints .i64 xN f)])] := by
  exact okl_seg hM o56_ok nG_ok (N := 1200) 1 (by kernel_rfl) (show dropC 1 (body Tryd.f68) = (dropC 1 (body Tryd.f68)) by kernel_rfl) (fun T => Eq.mpr (hlf_s_s c xN f T (hlf_Ka2 f)) (okl_fst (by kernel_rfl) rfl (by kernel_rfl) (hlf_i0 c xN f (fun _ => 0) hx hf)))
theorem hl_names (n cap : Nat) : Names (fun id => .sl id 0 n cap) := ⟨fun μ μ' i i' hi => by simp [V.den, hi], fun ρ i => rfl⟩
noncomputable def G68 (G : GOrc) : GOrc := extG 68 (fun vs m K => match views [] vs m with
  | some ([.sl 0 0 33 c], [.tup [.ints .i64 xN f]]) => gB (Nat.ble 33 xN && byO 33 f) (∀ h : Nat → Int, (By 33 h ∧ dv 256 33 h = dv 256 33 f / 2) → K (.sl m.length 0 33 33) (m ++ [.ints .i64 33 h]))
  | _ => False) G
theorem G68_ok {G : GOrc} (hG : GOrcOK Tryd.prog G) : GOrcOK Tryd.prog (G68 G) := by
  refine extG_ok hG fun vs m K h => ?_
  split at h
  · rename_i c xN f hv
    obtain ⟨hg, h⟩ := gB_t h
    simp only [Bool.and_eq_true] at hg
    refine outs_okl Tryd.func68 (by kernel_rfl) (by kernel_rfl) hv (O1 := fun _ => False) (O2 := hlO2 f) (fun r h => h.elim) (fun res c h => ?_) (hlf_all c xN f (bleT.1 hg.1) (byO_at hg.2)) (Nat.le_of_ble_eq_true (by kernel_rfl)) (by kernel_rfl) rfl (fun r h => h.elim) (fun res c hr => ?_)
    · obtain ⟨_, _, rfl, rfl⟩ := h; exact ⟨hl_names _ _, plain_ints _ _ _⟩
    · obtain ⟨g, hg2, rfl, rfl⟩ := hr; exact h g hg2
  · exact h.elim
end Go.Proofs.YtnoehjibponofaaDoor

/-
  odd: a contract. Conditions: none.
-/
namespace Go.Proofs.YtnoehjibponofaaDoor
open Go.Ev Go.Num
set_option linter.unusedVariables false
set_option linter.unusedSimpArgs false
/-- A pair that odd goes on with, of the pair u, c. -/
def OdI (u c : Int) (f g : Nat → Int) : Prop := (By 33 f ∧ By 33 g) ∧ 0 < dv 256 33 f ∧ (0 ≤ dv 256 33 g ∧ dv 256 33 g < LL) ∧ ∀ u2 c2, OddR (dv 256 33 f) (dv 256 33 g) u2 c2 → OddR u c u2 c2
theorem odI_0 {f g : Nat → Int} (hf : By 33 f) (hg : By 33 g) (h0 : 0 < dv 256 33 f) (h1 : 0 ≤ dv 256 33 g ∧ dv 256 33 g < LL) : OdI (dv 256 33 f) (dv 256 33 g) f g := ⟨⟨hf, hg⟩, h0, h1, fun _ _ h => h⟩
theorem odI_step {u c : Int} {f g f2 g2 : Nat → Int} (h : OdI u c f g) (he : dv 256 33 f % 2 = 0) (hf : By 33 f2 ∧ dv 256 33 f2 = dv 256 33 f / 2) (hg : By 33 g2 ∧ (2 * dv 256 33 g2 = dv 256 33 g ∨ 2 * dv 256 33 g2 = dv 256 33 g + LL)) : OdI u c f2 g2 ∧ dv 256 33 f2 < dv 256 33 f := by
  obtain ⟨⟨a1, a2⟩, a3, a4, a5⟩ := h
  have b := dv_bound (B := 256) (by omega) hg.1
  refine ⟨⟨⟨hf.1, hg.1⟩, by omega, ⟨b.1, by omega⟩, fun u2 c2 h => a5 u2 c2 (oddR_step (c' := dv 256 33 g2) he hg.2 (by rw [← hf.2]; exact h))⟩, by omega⟩
theorem odI_end {u c : Int} {f g : Nat → Int} (h : OdI u c f g) (ho : dv 256 33 f % 2 = 1) : OddR u c (dv 256 33 f) (dv 256 33 g) := h.2.2.2 _ _ (oddR_refl h.2.1 ho h.2.2.1)
theorem od_par {f : Nat → Int} (hf : By 33 f) {b : Bool} (h : ((remI (f 0) 2) == 0) = b) : dv 256 33 f % 2 = if b then 0 else 1 := by
  have e := par_v hf (by omega)
  have h0 := hf 0 (by omega)
  have e2 : remI (f 0) 2 = f 0 % 2 := by unfold remI; rw [Int.tmod_eq_emod_of_nonneg h0.1]
  rw [e2] at h
  cases b
  · have := ne_of_beq_false h; simp; omega
  · have := eq_of_beq h; simp; omega
theorem od_par1 {f : Nat → Int} (hf : By 33 f) {b : Bool} (h : ((remI (f 0) 2) == 1) = b) : dv 256 33 f % 2 = if b then 1 else 0 := by
  have e := par_v hf (by omega)
  have h0 := hf 0 (by omega)
  have e2 : remI (f 0) 2 = f 0 % 2 := by unfold remI; rw [Int.tmod_eq_emod_of_nonneg h0.1]
  rw [e2] at h
  cases b
  · have := ne_of_beq_false h; simp; omega
  · have := eq_of_beq h; simp; omega
theorem nm_cut33 {f : Nat → Int} {v : Int} (hf : Nm 34 f v) (hv : v < 2 * LL) : Nm 33 f v := by
  have e := hf.2
  rw [dv_top] at e
  have h32 := hf.1 33 (by omega)
  have hb := dv_bound (B := 256) (by omega) (n := 33) (a := f) fun i hi => hf.1 i (by omega)
  have hp : pw 256 33 = 29642774844752946028434172162224104410437116074403984394101141506025761187823616 := by decide
  rw [hp] at e hb
  refine ⟨fun j hj => hf.1 j (by omega), ?_⟩
  unfold LL at hv
  omega
theorem od_sum {g h : Nat → Int} (hg : By 33 g) (h1 : dv 256 33 g < LL) : Nm 33 (apx 34 (sumV 33 g 32 ordN) h) (dv 256 33 g + LL) := nm_cut33 (nm_sum (n := 34) h ⟨hg, rfl⟩ nm_ord rfl) (by omega)
/-- Its ends. -/
def OdP (f g : Nat → Int) : Prop := (By 33 f ∧ By 33 g) ∧ 0 < dv 256 33 f ∧ 0 ≤ dv 256 33 g ∧ dv 256 33 g < LL
def OdQ (f g h1 h2 : Nat → Int) : Prop := (By 33 h1 ∧ By 33 h2) ∧ OddR (dv 256 33 f) (dv 256 33 g) (dv 256 33 h1) (dv 256 33 h2)
def odT1 (cu cc eu ec : Nat) (f g : Nat → Int) (t : Go.Ev.Told) : Prop := OdQ f g f g ∧ t = ⟨.agg [.sl 0 0 33 cu, .sl 1 0 33 cc], [.ints .i64 (eu + 33) f, .ints .i64 (ec + 33) g], []⟩
def odT2 (eu ec : Nat) (f g : Nat → Int) (t : Go.Ev.Told) : Prop := ∃ h1 h2, OdQ f g h1 h2 ∧ t = ⟨.agg [.sl 2 0 33 33, .sl 3 0 33 33], [.ints .i64 (eu + 33) f, .ints .i64 (ec + 33) g], [.ints .i64 33 h1, .ints .i64 33 h2]⟩
def odK (cu cc eu ec : Nat) (f g : Nat → Int) (v : V) (m : List V) : Prop := (m[0]? = some (.ints .i64 (eu + 33) f) ∧ m[1]? = some (.ints .i64 (ec + 33) g)) ∧
  ((OdQ f g f g ∧ v = .agg [.sl 0 0 33 cu, .sl 1 0 33 cc]) ∨ ∃ h1 h2, OdQ f g h1 h2 ∧ v = .agg [.sl 3 0 33 33, .sl 4 0 33 33] ∧ m[3]? = some (.ints .i64 33 h1) ∧ m[4]? = some (.ints .i64 33 h2))
theorem od_told {cu cc eu ec : Nat} {f g : Nat → Int} {v : V} {m : List V} (h : odK cu cc eu ec f g v m) : ∃ t, (odT1 cu cc eu ec f g t ∨ odT2 eu ec f g t) ∧ toldIn 0 2 t v m := by
  obtain ⟨⟨m0, m1⟩, ⟨hq, rfl⟩ | ⟨h1, h2, hq, rfl, m3, m4⟩⟩ := h
  · refine ⟨_, .inl ⟨hq, rfl⟩, [], rfl, List.nodup_nil, (fun i hi => by cases hi), rfl, fun ν κ hk _ => ⟨?_, fun j c hc => ?_, fun j c i hc _ => by simp at hc⟩⟩
    · have k0 := hk 0 (by omega); have k1 := hk 1 (by omega)
      simp only [Nat.zero_add] at k0 k1
      simp [V.den, V.dens, k0, k1]
    · match j, hc with
      | 0, hc => simp only [List.getElem?_cons_zero, Option.some.injEq] at hc; subst hc; exact ⟨rfl, _, m0, rfl, (plain_ints _ _ _).2.1 ν κ⟩
      | 1, hc => simp only [List.getElem?_cons_succ, List.getElem?_cons_zero, Option.some.injEq] at hc; subst hc; exact ⟨rfl, _, m1, rfl, (plain_ints _ _ _).2.1 ν κ⟩
      | j + 2, hc => simp at hc
  · refine ⟨_, .inr ⟨h1, h2, hq, rfl⟩, [3, 4], rfl, by decide, (fun i hi p hp => by simp at hi; omega), rfl, fun ν κ hk hn => ⟨?_, fun j c hc => ?_, fun j c i hc hi => ?_⟩⟩
    · have k0 := hn 0 3 rfl; have k1 := hn 1 4 rfl
      simp [V.den, V.dens, k0, k1]
    · match j, hc with
      | 0, hc => simp only [List.getElem?_cons_zero, Option.some.injEq] at hc; subst hc; exact ⟨rfl, _, m0, rfl, (plain_ints _ _ _).2.1 ν κ⟩
      | 1, hc => simp only [List.getElem?_cons_succ, List.getElem?_cons_zero, Option.some.injEq] at hc; subst hc; exact ⟨rfl, _, m1, rfl, (plain_ints _ _ _).2.1 ν κ⟩
      | j + 2, hc => simp at hc
    · match j, hc, hi with
      | 0, hc, hi => simp only [List.getElem?_cons_zero, Option.some.injEq] at hc hi; subst hc hi; exact ⟨rfl, _, m3, rfl, (plain_ints _ _ _).2.1 ν κ⟩
      | 1, hc, hi => simp only [List.getElem?_cons_succ, List.getElem?_cons_zero, Option.some.injEq] at hc hi; subst hc hi; exact ⟨rfl, _, m4, rfl, (plain_ints _ _ _).2.1 ν κ⟩
      | j + 2, hc, hi => simp at hc
noncomputable def GO : GOrc := G68 (exG36 (inl Tryd.prog o56 1200 46 Tryd.f46 noG))
theorem GO_ok : GOrcOK Tryd.prog GO := G68_ok (G36_ok (inl_ok hM o56_ok (noG_ok _) Tryd.func46 (by kernel_rfl) (by kernel_rfl)))
theorem odd_za_s (cu cc eu ec : Nat) (f g : Nat → Int) (T : List V) : awq Tryd.prog o56 GO 2 1200 (dropC 1 (body Tryd.f55)) (ends Tryd.prog Tryd.f55 ((odK cu cc eu ec f g))) ⟨ovr 30 [1, 2] [(vP 2), (vP 3)] T, [(V.ints .i64 (eu + 33) f), (V.ints .i64 (ec + 33) g), (V.agg [(V.sl 0 0 33 cu), (V.sl 1 0 33 cc)]), (V.agg [V.snil, V.snil])]⟩ = ((odK cu cc eu ec f g) (V.agg [(V.sl 0 0 33 cu), (V.sl 1 0 33 cc)]) [(V.ints .i64 (eu + 33) f), (V.ints .i64 (ec + 33) g), (V.agg [(V.sl 0 0 33 cu), (V.sl 1 0 33 cc)]), (V.agg [(V.sl 0 0 33 cu), (V.sl 1 0 33 cc)])]) := by kernel_rfl
abbrev odd_Ka2 (cu cc eu ec : Nat) (f g : Nat → Int) : List V → List V → Prop := OkL Tryd.prog 2 30 [1, 2] (dropC 1 (body Tryd.f55)) (ends Tryd.prog Tryd.f55 ((odK cu cc eu ec f g)))
theorem odd_za (cu cc eu ec : Nat) (f g : Nat → Int) (hI : OdI (dv 256 33 f) (dv 256 33 g) f g) (ho : dv 256 33 f % 2 = 1) : (odd_Ka2 cu cc eu ec f g) [(vP 2), (vP 3)] [(V.ints .i64 (eu + 33) f), (V.ints .i64 (ec + 33) g), (V.agg [(V.sl 0 0 33 cu), (V.sl 1 0 33 cc)]), (V.agg [V.snil, V.snil])] := by
  exact okl_all hM o56_ok GO_ok (N := 1200) (fun T => Eq.mpr (odd_za_s cu cc eu ec f g T ) ⟨⟨rfl, rfl⟩, (.inl ⟨⟨hI.1, odI_end hI ho⟩, rfl⟩)⟩)
theorem odd_zb_s (cu cc eu ec : Nat) (f g : Nat → Int) (h1 h2 : Nat → Int) (T : List V) : awq Tryd.prog o56 GO 2 1200 (dropC 1 (body Tryd.f55)) (ends Tryd.prog Tryd.f55 ((odK cu cc eu ec f g))) ⟨ovr 30 [1, 2] [(vP 2), (vP 5)] T, [(V.ints .i64 (eu + 33) f), (V.ints .i64 (ec + 33) g), (V.agg [(V.sl 3 0 33 33), (V.sl 4 0 33 33)]), (V.ints .i64 33 h1), (V.ints .i64 33 h2), (V.agg [V.snil, V.snil])]⟩ = ((odK cu cc eu ec f g) (V.agg [(V.sl 3 0 33 33), (V.sl 4 0 33 33)]) [(V.ints .i64 (eu + 33) f), (V.ints .i64 (ec + 33) g), (V.agg [(V.sl 3 0 33 33), (V.sl 4 0 33 33)]), (V.ints .i64 33 h1), (V.ints .i64 33 h2), (V.agg [(V.sl 3 0 33 33), (V.sl 4 0 33 33)])]) := by kernel_rfl
theorem odd_zb (cu cc eu ec : Nat) (f g : Nat → Int) (h1 h2 : Nat → Int) (hI : OdI (dv 256 33 f) (dv 256 33 g) h1 h2) (ho : dv 256 33 h1 % 2 = 1) : (odd_Ka2 cu cc eu ec f g) [(vP 2), (vP 5)] [(V.ints .i64 (eu + 33) f), (V.ints .i64 (ec + 33) g), (V.agg [(V.sl 3 0 33 33), (V.sl 4 0 33 33)]), (V.ints .i64 33 h1), (V.ints .i64 33 h2), (V.agg [V.snil, V.snil])] := by
  exact okl_all hM o56_ok GO_ok (N := 1200) (fun T => Eq.mpr (odd_zb_s cu cc eu ec f g h1 h2 T ) ⟨⟨rfl, rfl⟩, (.inr ⟨h1, h2, ⟨hI.1, odI_end hI ho⟩, rfl, rfl, rfl⟩)⟩)
abbrev odd_Klh (cu cc eu ec : Nat) (f g : Nat → Int) (w1 : Nat) : List V → List V → Prop := OkH Tryd.prog 2 30 [1, 2] (lopC (blkC (takeC 0 (dropC 0 (body Tryd.f55))))) (blkQ 0 (segQ 30 [1, 2] (odd_Ka2 cu cc eu ec f g) (ends Tryd.prog Tryd.f55 ((odK cu cc eu ec f g))))) w1
theorem odd_ca_s (cu cc eu ec : Nat) (f g : Nat → Int) (T : List V) (k0 k1 : List V → List V → Prop) : awq Tryd.prog o56 GO 2 1200 (blkC (dropC 0 (lopC (blkC (takeC 0 (dropC 0 (body Tryd.f55))))))) (blkQ 1 (segQ 30 [1, 2] k0 (blkQ 0 (segQ 30 [1, 2] k1 (ends Tryd.prog Tryd.f55 ((odK cu cc eu ec f g))))))) ⟨ovr 30 [1, 2] [(vP 2), (vP 3)] T, [(V.ints .i64 (eu + 33) f), (V.ints .i64 (ec + 33) g), (V.agg [(V.sl 0 0 33 cu), (V.sl 1 0 33 cc)]), (V.agg [V.snil, V.snil])]⟩ = (gB (Nat.ble 33 ((eu + 33) - 0) && byO 33 f) (∀ (ff1 : Nat → Int), (By 33 ff1 ∧ dv 256 33 ff1 = dv 256 33 f / 2) → (mB ((remI (g 0) 2) == 1) (((∀ (e2 : Nat) (ff3 : Nat → Int), (gB (decide (0 ≤ (0 : Int) ∧ (0 : Int) ≤ (33 : Int) ∧ (33 : Int) ≤ (((e2 + 34) : Nat) : Int))) (gB (Nat.ble 33 ((e2 + 34) - 0) && byO 33 (apx 34 (sumV 33 g 32 ordN) ff3)) (∀ (ff4 : Nat → Int), (By 33 ff4 ∧ dv 256 33 ff4 = dv 256 33 (apx 34 (sumV 33 g 32 ordN) ff3) / 2) → (k0 [(vP 2), (vP 3)] [(V.ints .i64 (eu + 33) f), (V.ints .i64 (ec + 33) g), (V.agg [(V.sl 4 0 33 33), (V.sl 7 0 33 33)]), (V.agg [V.snil, V.snil]), (V.ints .i64 33 ff1), (V.ints .i64 32 ordN), (V.ints .i64 (e2 + 34) (apx 34 (sumV 33 g 32 ordN) ff3)), (V.ints .i64 33 ff4)]))))) ∧ (∀ (e5 : Nat) (ff6 : Nat → Int), (gB (decide (0 ≤ (0 : Int) ∧ (0 : Int) ≤ (33 : Int) ∧ (33 : Int) ≤ (((e5 + 34) : Nat) : Int))) (gB (Nat.ble 33 ((e5 + 34) - 0) && byO 33 (apx 34 (sumV 33 g 32 ordN) ff6)) (∀ (ff7 : Nat → Int), (By 33 ff7 ∧ dv 256 33 ff7 = dv 256 33 (apx 34 (sumV 33 g 32 ordN) ff6) / 2) → (k0 [(vP 2), (vP 3)] [(V.ints .i64 (eu + 33) f), (V.ints .i64 (ec + 33) g), (V.agg [(V.sl 4 0 33 33), (V.sl 7 0 33 33)]), (V.agg [V.snil, V.snil]), (V.ints .i64 33 ff1), (V.ints .i64 32 ordN), (V.ints .i64 (e5 + 34) (apx 34 (sumV 33 g 32 ordN) ff6)), (V.ints .i64 33 ff7)])))))) ∧ (∀ (e8 : Nat) (ff9 : Nat → Int), (gB (decide (0 ≤ (0 : Int) ∧ (0 : Int) ≤ (33 : Int) ∧ (33 : Int) ≤ (((e8 + 34) : Nat) : Int))) (gB (Nat.ble 33 ((e8 + 34) - 0) && byO 33 (apx 34 (sumV 33 g 32 ordN) ff9)) (∀ (ff10 : Nat → Int), (By 33 ff10 ∧ dv 256 33 ff10 = dv 256 33 (apx 34 (sumV 33 g 32 ordN) ff9) / 2) → (k0 [(vP 2), (vP 3)] [(V.ints .i64 (eu + 33) f), (V.ints .i64 (ec + 33) g), (V.agg [(V.sl 4 0 33 33), (V.sl 7 0 33 33)]), (V.agg [V.snil, V.snil]), (V.ints .i64 33 ff1), (V.ints .i64 32 ordN), (V.ints .i64 (e8 + 34) (apx 34 (sumV 33 g 32 ordN) ff9)), (V.ints .i64 33 ff10)])))))) (gB (Nat.ble 33 ((ec + 33) - 0) && byO 33 g) (∀ (ff11 : Nat → Int), (By 33 ff11 ∧ dv 256 33 ff11 = dv 256 33 g / 2) → (k0 [(vP 2), (vP 3)] [(V.ints .i64 (eu + 33) f), (V.ints .i64 (ec + 33) g), (V.agg [(V.sl 4 0 33 33), (V.sl 5 0 33 33)]), (V.agg [V.snil, V.snil]), (V.ints .i64 33 ff1), (V.ints .i64 33 ff11)])))))) := by kernel_rfl
abbrev odd_Kc0 (cu cc eu ec : Nat) (f g : Nat → Int) (w1 : Nat) : List V → List V → Prop := OkL Tryd.prog 2 30 [1, 2] (blkC (dropC 0 (lopC (blkC (takeC 0 (dropC 0 (body Tryd.f55))))))) (blkQ 1 (segQ 30 [1, 2] (odd_Klh cu cc eu ec f g w1) (blkQ 0 (segQ 30 [1, 2] (odd_Ka2 cu cc eu ec f g) (ends Tryd.prog Tryd.f55 ((odK cu cc eu ec f g)))))))
theorem odd_ca (w1 : Nat) (cu cc eu ec : Nat) (f g : Nat → Int) (hI : OdI (dv 256 33 f) (dv 256 33 g) f g) (he : dv 256 33 f % 2 = 0) (IH : ∀ (k1 k2 : Nat → Int), OdI (dv 256 33 f) (dv 256 33 g) k1 k2 → dv 256 33 k1 < dv 256 33 f → (odd_Klh cu cc eu ec f g w1) [(vP 2), (vP 5)] [(V.ints .i64 (eu + 33) f), (V.ints .i64 (ec + 33) g), (V.agg [(V.sl 3 0 33 33), (V.sl 4 0 33 33)]), (V.ints .i64 33 k1), (V.ints .i64 33 k2), (V.agg [V.snil, V.snil])]) : (odd_Kc0 cu cc eu ec f g w1) [(vP 2), (vP 3)] [(V.ints .i64 (eu + 33) f), (V.ints .i64 (ec + 33) g), (V.agg [(V.sl 0 0 33 cu), (V.sl 1 0 33 cc)]), (V.agg [V.snil, V.snil])] := by
  exact okl_all hM o56_ok GO_ok (N := 1200) (fun T => Eq.mpr (odd_ca_s cu cc eu ec f g T (odd_Klh cu cc eu ec f g w1) (odd_Ka2 cu cc eu ec f g)) (gm (both (bleT.2 (by omega)) (byO_mk hI.1.1)) (fun ff1 q0 => (mBt (fun h1 => ⟨⟨(fun e2 ff3 => (gm (decide_eq_true (by omega)) (gm (both (bleT.2 (by omega)) (byO_mk (od_sum hI.1.2 hI.2.2.1.2).1)) (fun ff4 q2 => (at_gc (okR_gc _ _ _ _ _) (IH ff1 ff4 (odI_step hI he q0 ⟨q2.1, .inr (by have := q2.2; have := (od_sum (h := ff3) hI.1.2 hI.2.2.1.2).2; have := od_par1 hI.1.2 h1; rw [if_pos rfl] at this; have := LL_odd; omega)⟩).1 (odI_step hI he q0 ⟨q2.1, .inr (by have := q2.2; have := (od_sum (h := ff3) hI.1.2 hI.2.2.1.2).2; have := od_par1 hI.1.2 h1; rw [if_pos rfl] at this; have := LL_odd; omega)⟩).2) [0, 1, 2, 4, 7, 3] (by kernel_rfl) (by kernel_rfl) (by kernel_rfl) (fun μ => by kernel_rfl)))))), (fun e5 ff6 => (gm (decide_eq_true (by omega)) (gm (both (bleT.2 (by omega)) (byO_mk (od_sum hI.1.2 hI.2.2.1.2).1)) (fun ff7 q2 => (at_gc (okR_gc _ _ _ _ _) (IH ff1 ff7 (odI_step hI he q0 ⟨q2.1, .inr (by have := q2.2; have := (od_sum (h := ff6) hI.1.2 hI.2.2.1.2).2; have := od_par1 hI.1.2 h1; rw [if_pos rfl] at this; have := LL_odd; omega)⟩).1 (odI_step hI he q0 ⟨q2.1, .inr (by have := q2.2; have := (od_sum (h := ff6) hI.1.2 hI.2.2.1.2).2; have := od_par1 hI.1.2 h1; rw [if_pos rfl] at this; have := LL_odd; omega)⟩).2) [0, 1, 2, 4, 7, 3] (by kernel_rfl) (by kernel_rfl) (by kernel_rfl) (fun μ => by kernel_rfl))))))⟩, (fun e8 ff9 => (gm (decide_eq_true (by omega)) (gm (both (bleT.2 (by omega)) (byO_mk (od_sum hI.1.2 hI.2.2.1.2).1)) (fun ff10 q2 => (at_gc (okR_gc _ _ _ _ _) (IH ff1 ff10 (odI_step hI he q0 ⟨q2.1, .inr (by have := q2.2; have := (od_sum (h := ff9) hI.1.2 hI.2.2.1.2).2; have := od_par1 hI.1.2 h1; rw [if_pos rfl] at this; have := LL_odd; omega)⟩).1 (odI_step hI he q0 ⟨q2.1, .inr (by have := q2.2; have := (od_sum (h := ff9) hI.1.2 hI.2.2.1.2).2; have := od_par1 hI.1.2 h1; rw [if_pos rfl] at this; have := LL_odd; omega)⟩).2) [0, 1, 2, 4, 7, 3] (by kernel_rfl) (by kernel_rfl) (by kernel_rfl) (fun μ => by kernel_rfl))))))⟩) (fun h1 => (gm (both (bleT.2 (by omega)) (byO_mk hI.1.2)) (fun ff11 q2 => (at_gc (okR_gc _ _ _ _ _) (IH ff1 ff11 (odI_step hI he q0 ⟨q2.1, .inl (by have := q2.2; have := od_par1 hI.1.2 h1; simp at this; omega)⟩).1 (odI_step hI he q0 ⟨q2.1, .inl (by have := q2.2; have := od_par1 hI.1.2 h1; simp at this; omega)⟩).2) [0, 1, 2, 4, 5, 3] (by kernel_rfl) (by kernel_rfl) (by kernel_rfl) (fun μ => by kernel_rfl)))))))))
theorem odd_ha_s (cu cc eu ec : Nat) (f g : Nat → Int) (T : List V) (kk k0 k1 : List V → List V → Prop) : awq Tryd.prog o56 GO 2 1200 (takeC 0 (lopC (blkC (takeC 0 (dropC 0 (body Tryd.f55)))))) (segQ 30 [1, 2] kk (segQ 30 [1, 2] k0 (blkQ 0 (segQ 30 [1, 2] k1 (ends Tryd.prog Tryd.f55 ((odK cu cc eu ec f g))))))) ⟨ovr 30 [1, 2] [(vP 2), (vP 3)] T, [(V.ints .i64 (eu + 33) f), (V.ints .i64 (ec + 33) g), (V.agg [(V.sl 0 0 33 cu), (V.sl 1 0 33 cc)]), (V.agg [V.snil, V.snil])]⟩ = (mB ((remI (f 0) 2) == 0) (kk [(vP 2), (vP 3)] [(V.ints .i64 (eu + 33) f), (V.ints .i64 (ec + 33) g), (V.agg [(V.sl 0 0 33 cu), (V.sl 1 0 33 cc)]), (V.agg [V.snil, V.snil])]) (k1 [(vP 2), (vP 3)] [(V.ints .i64 (eu + 33) f), (V.ints .i64 (ec + 33) g), (V.agg [(V.sl 0 0 33 cu), (V.sl 1 0 33 cc)]), (V.agg [V.snil, V.snil])])) := by kernel_rfl
abbrev odd_Kl1 (cu cc eu ec : Nat) (f g : Nat → Int) (w1 : Nat) : List V → List V → Prop := OkL Tryd.prog 2 30 [1, 2] (dropC 0 (lopC (blkC (takeC 0 (dropC 0 (body Tryd.f55)))))) (segQ 30 [1, 2] (odd_Klh cu cc eu ec f g w1) (blkQ 0 (segQ 30 [1, 2] (odd_Ka2 cu cc eu ec f g) (ends Tryd.prog Tryd.f55 ((odK cu cc eu ec f g))))))
theorem odd_ha (w1 : Nat) (cu cc eu ec : Nat) (f g : Nat → Int) (hI : OdI (dv 256 33 f) (dv 256 33 g) f g) (IH : ∀ (k1 k2 : Nat → Int), OdI (dv 256 33 f) (dv 256 33 g) k1 k2 → dv 256 33 k1 < dv 256 33 f → (odd_Klh cu cc eu ec f g w1) [(vP 2), (vP 5)] [(V.ints .i64 (eu + 33) f), (V.ints .i64 (ec + 33) g), (V.agg [(V.sl 3 0 33 33), (V.sl 4 0 33 33)]), (V.ints .i64 33 k1), (V.ints .i64 33 k2), (V.agg [V.snil, V.snil])]) : (odd_Klh cu cc eu ec f g (w1 + 1)) [(vP 2), (vP 3)] [(V.ints .i64 (eu + 33) f), (V.ints .i64 (ec + 33) g), (V.agg [(V.sl 0 0 33 cu), (V.sl 1 0 33 cc)]), (V.agg [V.snil, V.snil])] := by
  exact okh_round (okl_seg hM o56_ok GO_ok (N := 1200) 0 (by kernel_rfl) (show dropC 0 (lopC (blkC (takeC 0 (dropC 0 (body Tryd.f55))))) = (dropC 0 (lopC (blkC (takeC 0 (dropC 0 (body Tryd.f55)))))) by kernel_rfl)  (fun T => Eq.mpr (odd_ha_s cu cc eu ec f g T (odd_Kl1 cu cc eu ec f g w1) (odd_Klh cu cc eu ec f g w1) (odd_Ka2 cu cc eu ec f g)) (mBt (fun h0 => (okl_blk (id := 1) (d := (blkC (dropC 0 (lopC (blkC (takeC 0 (dropC 0 (body Tryd.f55)))))))) (by kernel_rfl) (odd_ca w1 cu cc eu ec f g  hI (od_par hI.1.1 h0) IH))) (fun h0 => (odd_za cu cc eu ec f g  hI (od_par hI.1.1 h0))))))
theorem odd_cb_s (cu cc eu ec : Nat) (f g : Nat → Int) (h1 h2 : Nat → Int) (T : List V) (k0 k1 : List V → List V → Prop) : awq Tryd.prog o56 GO 2 1200 (blkC (dropC 0 (lopC (blkC (takeC 0 (dropC 0 (body Tryd.f55))))))) (blkQ 1 (segQ 30 [1, 2] k0 (blkQ 0 (segQ 30 [1, 2] k1 (ends Tryd.prog Tryd.f55 ((odK cu cc eu ec f g))))))) ⟨ovr 30 [1, 2] [(vP 2), (vP 5)] T, [(V.ints .i64 (eu + 33) f), (V.ints .i64 (ec + 33) g), (V.agg [(V.sl 3 0 33 33), (V.sl 4 0 33 33)]), (V.ints .i64 33 h1), (V.ints .i64 33 h2), (V.agg [V.snil, V.snil])]⟩ = (gB (Nat.ble 33 (33 - 0) && byO 33 h1) (∀ (ff1 : Nat → Int), (By 33 ff1 ∧ dv 256 33 ff1 = dv 256 33 h1 / 2) → (mB ((remI (h2 0) 2) == 1) (((∀ (e2 : Nat) (ff3 : Nat → Int), (gB (decide (0 ≤ (0 : Int) ∧ (0 : Int) ≤ (33 : Int) ∧ (33 : Int) ≤ (((e2 + 34) : Nat) : Int))) (gB (Nat.ble 33 ((e2 + 34) - 0) && byO 33 (apx 34 (sumV 33 h2 32 ordN) ff3)) (∀ (ff4 : Nat → Int), (By 33 ff4 ∧ dv 256 33 ff4 = dv 256 33 (apx 34 (sumV 33 h2 32 ordN) ff3) / 2) → (k0 [(vP 2), (vP 5)] [(V.ints .i64 (eu + 33) f), (V.ints .i64 (ec + 33) g), (V.agg [(V.sl 6 0 33 33), (V.sl 9 0 33 33)]), (V.ints .i64 33 h1), (V.ints .i64 33 h2), (V.agg [V.snil, V.snil]), (V.ints .i64 33 ff1), (V.ints .i64 32 ordN), (V.ints .i64 (e2 + 34) (apx 34 (sumV 33 h2 32 ordN) ff3)), (V.ints .i64 33 ff4)]))))) ∧ (∀ (e5 : Nat) (ff6 : Nat → Int), (gB (decide (0 ≤ (0 : Int) ∧ (0 : Int) ≤ (33 : Int) ∧ (33 : Int) ≤ (((e5 + 34) : Nat) : Int))) (gB (Nat.ble 33 ((e5 + 34) - 0) && byO 33 (apx 34 (sumV 33 h2 32 ordN) ff6)) (∀ (ff7 : Nat → Int), (By 33 ff7 ∧ dv 256 33 ff7 = dv 256 33 (apx 34 (sumV 33 h2 32 ordN) ff6) / 2) → (k0 [(vP 2), (vP 5)] [(V.ints .i64 (eu + 33) f), (V.ints .i64 (ec + 33) g), (V.agg [(V.sl 6 0 33 33), (V.sl 9 0 33 33)]), (V.ints .i64 33 h1), (V.ints .i64 33 h2), (V.agg [V.snil, V.snil]), (V.ints .i64 33 ff1), (V.ints .i64 32 ordN), (V.ints .i64 (e5 + 34) (apx 34 (sumV 33 h2 32 ordN) ff6)), (V.ints .i64 33 ff7)])))))) ∧ (∀ (e8 : Nat) (ff9 : Nat → Int), (gB (decide (0 ≤ (0 : Int) ∧ (0 : Int) ≤ (33 : Int) ∧ (33 : Int) ≤ (((e8 + 34) : Nat) : Int))) (gB (Nat.ble 33 ((e8 + 34) - 0) && byO 33 (apx 34 (sumV 33 h2 32 ordN) ff9)) (∀ (ff10 : Nat → Int), (By 33 ff10 ∧ dv 256 33 ff10 = dv 256 33 (apx 34 (sumV 33 h2 32 ordN) ff9) / 2) → (k0 [(vP 2), (vP 5)] [(V.ints .i64 (eu + 33) f), (V.ints .i64 (ec + 33) g), (V.agg [(V.sl 6 0 33 33), (V.sl 9 0 33 33)]), (V.ints .i64 33 h1), (V.ints .i64 33 h2), (V.agg [V.snil, V.snil]), (V.ints .i64 33 ff1), (V.ints .i64 32 ordN), (V.ints .i64 (e8 + 34) (apx 34 (sumV 33 h2 32 ordN) ff9)), (V.ints .i64 33 ff10)])))))) (gB (Nat.ble 33 (33 - 0) && byO 33 h2) (∀ (ff11 : Nat → Int), (By 33 ff11 ∧ dv 256 33 ff11 = dv 256 33 h2 / 2) → (k0 [(vP 2), (vP 5)] [(V.ints .i64 (eu + 33) f), (V.ints .i64 (ec + 33) g), (V.agg [(V.sl 6 0 33 33), (V.sl 7 0 33 33)]), (V.ints .i64 33 h1), (V.ints .i64 33 h2), (V.agg [V.snil, V.snil]), (V.ints .i64 33 ff1), (V.ints .i64 33 ff11)])))))) := by kernel_rfl
theorem odd_cb (w1 : Nat) (cu cc eu ec : Nat) (f g : Nat → Int) (h1 h2 : Nat → Int) (hI : OdI (dv 256 33 f) (dv 256 33 g) h1 h2) (he : dv 256 33 h1 % 2 = 0) (IH : ∀ (k1 k2 : Nat → Int), OdI (dv 256 33 f) (dv 256 33 g) k1 k2 → dv 256 33 k1 < dv 256 33 h1 → (odd_Klh cu cc eu ec f g w1) [(vP 2), (vP 5)] [(V.ints .i64 (eu + 33) f), (V.ints .i64 (ec + 33) g), (V.agg [(V.sl 3 0 33 33), (V.sl 4 0 33 33)]), (V.ints .i64 33 k1), (V.ints .i64 33 k2), (V.agg [V.snil, V.snil])]) : (odd_Kc0 cu cc eu ec f g w1) [(vP 2), (vP 5)] [(V.ints .i64 (eu + 33) f), (V.ints .i64 (ec + 33) g), (V.agg [(V.sl 3 0 33 33), (V.sl 4 0 33 33)]), (V.ints .i64 33 h1), (V.ints .i64 33 h2), (V.agg [V.snil, V.snil])] := by
  exact okl_all hM o56_ok GO_ok (N := 1200) (fun T => Eq.mpr (odd_cb_s cu cc eu ec f g h1 h2 T (odd_Klh cu cc eu ec f g w1) (odd_Ka2 cu cc eu ec f g)) (gm (both (bleT.2 (by omega)) (byO_mk hI.1.1)) (fun ff1 q0 => (mBt (fun h1 => ⟨⟨(fun e2 ff3 => (gm (decide_eq_true (by omega)) (gm (both (bleT.2 (by omega)) (byO_mk (od_sum hI.1.2 hI.2.2.1.2).1)) (fun ff4 q2 => (at_gc (okR_gc _ _ _ _ _) (IH ff1 ff4 (odI_step hI he q0 ⟨q2.1, .inr (by have := q2.2; have := (od_sum (h := ff3) hI.1.2 hI.2.2.1.2).2; have := od_par1 hI.1.2 h1; rw [if_pos rfl] at this; have := LL_odd; omega)⟩).1 (odI_step hI he q0 ⟨q2.1, .inr (by have := q2.2; have := (od_sum (h := ff3) hI.1.2 hI.2.2.1.2).2; have := od_par1 hI.1.2 h1; rw [if_pos rfl] at this; have := LL_odd; omega)⟩).2) [0, 1, 2, 6, 9, 5] (by kernel_rfl) (by kernel_rfl) (by kernel_rfl) (fun μ => by kernel_rfl)))))), (fun e5 ff6 => (gm (decide_eq_true (by omega)) (gm (both (bleT.2 (by omega)) (byO_mk (od_sum hI.1.2 hI.2.2.1.2).1)) (fun ff7 q2 => (at_gc (okR_gc _ _ _ _ _) (IH ff1 ff7 (odI_step hI he q0 ⟨q2.1, .inr (by have := q2.2; have := (od_sum (h := ff6) hI.1.2 hI.2.2.1.2).2; have := od_par1 hI.1.2 h1; rw [if_pos rfl] at this; have := LL_odd; omega)⟩).1 (odI_step hI he q0 ⟨q2.1, .inr (by have := q2.2; have := (od_sum (h := ff6) hI.1.2 hI.2.2.1.2).2; have := od_par1 hI.1.2 h1; rw [if_pos rfl] at this; have := LL_odd; omega)⟩).2) [0, 1, 2, 6, 9, 5] (by kernel_rfl) (by kernel_rfl) (by kernel_rfl) (fun μ => by kernel_rfl))))))⟩, (fun e8 ff9 => (gm (decide_eq_true (by omega)) (gm (both (bleT.2 (by omega)) (byO_mk (od_sum hI.1.2 hI.2.2.1.2).1)) (fun ff10 q2 => (at_gc (okR_gc _ _ _ _ _) (IH ff1 ff10 (odI_step hI he q0 ⟨q2.1, .inr (by have := q2.2; have := (od_sum (h := ff9) hI.1.2 hI.2.2.1.2).2; have := od_par1 hI.1.2 h1; rw [if_pos rfl] at this; have := LL_odd; omega)⟩).1 (odI_step hI he q0 ⟨q2.1, .inr (by have := q2.2; have := (od_sum (h := ff9) hI.1.2 hI.2.2.1.2).2; have := od_par1 hI.1.2 h1; rw [if_pos rfl] at this; have := LL_odd; omega)⟩).2) [0, 1, 2, 6, 9, 5] (by kernel_rfl) (by kernel_rfl) (by kernel_rfl) (fun μ => by kernel_rfl))))))⟩) (fun h1 => (gm (both (bleT.2 (by omega)) (byO_mk hI.1.2)) (fun ff11 q2 => (at_gc (okR_gc _ _ _ _ _) (IH ff1 ff11 (odI_step hI he q0 ⟨q2.1, .inl (by have := q2.2; have := od_par1 hI.1.2 h1; simp at this; omega)⟩).1 (odI_step hI he q0 ⟨q2.1, .inl (by have := q2.2; have := od_par1 hI.1.2 h1; simp at this; omega)⟩).2) [0, 1, 2, 6, 7, 5] (by kernel_rfl) (by kernel_rfl) (by kernel_rfl) (fun μ => by kernel_rfl)))))))))
theorem odd_hb_s (cu cc eu ec : Nat) (f g : Nat → Int) (h1 h2 : Nat → Int) (T : List V) (kk k0 k1 : List V → List V → Prop) : awq Tryd.prog o56 GO 2 1200 (takeC 0 (lopC (blkC (takeC 0 (dropC 0 (body Tryd.f55)))))) (segQ 30 [1, 2] kk (segQ 30 [1, 2] k0 (blkQ 0 (segQ 30 [1, 2] k1 (ends Tryd.prog Tryd.f55 ((odK cu cc eu ec f g))))))) ⟨ovr 30 [1, 2] [(vP 2), (vP 5)] T, [(V.ints .i64 (eu + 33) f), (V.ints .i64 (ec + 33) g), (V.agg [(V.sl 3 0 33 33), (V.sl 4 0 33 33)]), (V.ints .i64 33 h1), (V.ints .i64 33 h2), (V.agg [V.snil, V.snil])]⟩ = (mB ((remI (h1 0) 2) == 0) (kk [(vP 2), (vP 5)] [(V.ints .i64 (eu + 33) f), (V.ints .i64 (ec + 33) g), (V.agg [(V.sl 3 0 33 33), (V.sl 4 0 33 33)]), (V.ints .i64 33 h1), (V.ints .i64 33 h2), (V.agg [V.snil, V.snil])]) (k1 [(vP 2), (vP 5)] [(V.ints .i64 (eu + 33) f), (V.ints .i64 (ec + 33) g), (V.agg [(V.sl 3 0 33 33), (V.sl 4 0 33 33)]), (V.ints .i64 33 h1), (V.ints .i64 33 h2), (V.agg [V.snil, V.snil])])) := by kernel_rfl
theorem odd_hb (w1 : Nat) (cu cc eu ec : Nat) (f g : Nat → Int) (h1 h2 : Nat → Int) (hI : OdI (dv 256 33 f) (dv 256 33 g) h1 h2) (IH : ∀ (k1 k2 : Nat → Int), OdI (dv 256 33 f) (dv 256 33 g) k1 k2 → dv 256 33 k1 < dv 256 33 h1 → (odd_Klh cu cc eu ec f g w1) [(vP 2), (vP 5)] [(V.ints .i64 (eu + 33) f), (V.ints .i64 (ec + 33) g), (V.agg [(V.sl 3 0 33 33), (V.sl 4 0 33 33)]), (V.ints .i64 33 k1), (V.ints .i64 33 k2), (V.agg [V.snil, V.snil])]) : (odd_Klh cu cc eu ec f g (w1 + 1)) [(vP 2), (vP 5)] [(V.ints .i64 (eu + 33) f), (V.ints .i64 (ec + 33) g), (V.agg [(V.sl 3 0 33 33), (V.sl 4 0 33 33)]), (V.ints .i64 33 h1), (V.ints .i64 33 h2), (V.agg [V.snil, V.snil])] := by
  exact okh_round (okl_seg hM o56_ok GO_ok (N := 1200) 0 (by kernel_rfl) (show dropC 0 (lopC (blkC (takeC 0 (dropC 0 (body Tryd.f55))))) = (dropC 0 (lopC (blkC (takeC 0 (dropC 0 (body Tryd.f55)))))) by kernel_rfl)  (fun T => Eq.mpr (odd_hb_s cu cc eu ec f g h1 h2 T (odd_Kl1 cu cc eu ec f g w1) (odd_Klh cu cc eu ec f g w1) (odd_Ka2 cu cc eu ec f g)) (mBt (fun h0 => (okl_blk (id := 1) (d := (blkC (dropC 0 (lopC (blkC (takeC 0 (dropC 0 (body Tryd.f55)))))))) (by kernel_rfl) (odd_cb w1 cu cc eu ec f g h1 h2 hI (od_par hI.1.1 h0) IH))) (fun h0 => (odd_zb cu cc eu ec f g h1 h2 hI (od_par hI.1.1 h0))))))
theorem odd_hdb (cu cc eu ec : Nat) (f g : Nat → Int) : ∀ (w1 : Nat) (h1 h2 : Nat → Int), OdI (dv 256 33 f) (dv 256 33 g) h1 h2 → dv 256 33 h1 < (w1 : Int) → (odd_Klh cu cc eu ec f g (w1 + 1)) [(vP 2), (vP 5)] [(V.ints .i64 (eu + 33) f), (V.ints .i64 (ec + 33) g), (V.agg [(V.sl 3 0 33 33), (V.sl 4 0 33 33)]), (V.ints .i64 33 h1), (V.ints .i64 33 h2), (V.agg [V.snil, V.snil])]
  | 0, h1, h2, hI, hw => absurd hI.2.1 (by omega)
  | w1 + 1, h1, h2, hI, hw => odd_hb (w1 + 1) cu cc eu ec f g h1 h2 hI (fun h3 h4 hJ hl => odd_hdb cu cc eu ec f g w1 h3 h4 hJ (by omega))
theorem odd_hda (cu cc eu ec : Nat) (f g : Nat → Int) (w1 : Nat) (hI : OdI (dv 256 33 f) (dv 256 33 g) f g) (hw : dv 256 33 f < ((w1 + 1 : Nat) : Int)) : (odd_Klh cu cc eu ec f g (w1 + 1 + 1)) [(vP 2), (vP 3)] [(V.ints .i64 (eu + 33) f), (V.ints .i64 (ec + 33) g), (V.agg [(V.sl 0 0 33 cu), (V.sl 1 0 33 cc)]), (V.agg [V.snil, V.snil])] := odd_ha (w1 + 1) cu cc eu ec f g hI (fun h1 h2 hJ hl => odd_hdb cu cc eu ec f g w1 h1 h2 hJ (by omega))
theorem odd_s_s (cu cc eu ec : Nat) (f g : Nat → Int) (T : List V) (kk : List V → List V → Prop) : awq Tryd.prog o56 GO 2 1200 (takeC 0 (body Tryd.f55)) (segQ 30 [1, 2] kk (ends Tryd.prog Tryd.f55 ((odK cu cc eu ec f g)))) ⟨ovr 30 [0] [(V.agg [(V.sl 0 0 33 cu), (V.sl 1 0 33 cc)])] T, [(V.ints .i64 (eu + 33) f), (V.ints .i64 (ec + 33) g)]⟩ = (kk [(vP 2), (vP 3)] [(V.ints .i64 (eu + 33) f), (V.ints .i64 (ec + 33) g), (V.agg [(V.sl 0 0 33 cu), (V.sl 1 0 33 cc)]), (V.agg [V.snil, V.snil])]) := by kernel_rfl
abbrev odd_Ka1 (cu cc eu ec : Nat) (f g : Nat → Int) : List V → List V → Prop := OkL Tryd.prog 2 30 [1, 2] (dropC 0 (body Tryd.f55)) (ends Tryd.prog Tryd.f55 ((odK cu cc eu ec f g)))
theorem odd_i (cu cc eu ec : Nat) (f g : Nat → Int) (hI : OdI (dv 256 33 f) (dv 256 33 g) f g) : (odd_Ka1 cu cc eu ec f g) [(vP 2), (vP 3)] [(V.ints .i64 (eu + 33) f), (V.ints .i64 (ec + 33) g), (V.agg [(V.sl 0 0 33 cu), (V.sl 1 0 33 cc)]), (V.agg [V.snil, V.snil])] := (okl_fst (by kernel_rfl) rfl (by kernel_rfl) (okl_blk (id := 0) (d := (blkC (takeC 0 (dropC 0 (body Tryd.f55))))) (by kernel_rfl) (okl_loop ((dv 256 33 f).toNat + 1 + 1) (by kernel_rfl) (odd_hda cu cc eu ec f g (dv 256 33 f).toNat hI (by have := hI.2.1; omega)))))
abbrev odd_Ka0 (cu cc eu ec : Nat) (f g : Nat → Int) : List V → List V → Prop := OkL Tryd.prog 2 30 [0] (body Tryd.f55) (ends Tryd.prog Tryd.f55 ((odK cu cc eu ec f g)))
theorem odd_all (cu cc eu ec : Nat) (f g : Nat → Int) (hI : OdI (dv 256 33 f) (dv 256 33 g) f g) : (odd_Ka0 cu cc eu ec f g) [(V.agg [(V.sl 0 0 33 cu), (V.sl 1 0 33 cc)])] [(V.ints .i64 (eu + 33) f), (V.ints .i64 (ec + 33) g)] := by
  exact okl_seg hM o56_ok GO_ok (N := 1200) 0 (by kernel_rfl) (show dropC 0 (body Tryd.f55) = (dropC 0 (body Tryd.f55)) by kernel_rfl) (fun T => Eq.mpr (odd_s_s cu cc eu ec f g T (odd_Ka1 cu cc eu ec f g)) (odd_i cu cc eu ec f g hI))
noncomputable def G55 (G : GOrc) : GOrc := extG 55 (fun vs m K => match vs with
  | [.agg [.sl u _ _ _, .sl c _ _ _]] => match viewO [] [u, c] vs m with
    | some ([.agg [.sl 0 0 33 cu, .sl 1 0 33 cc]], [.ints .i64 uN f, .ints .i64 cN g]) => gB (Nat.ble 33 uN && Nat.ble 33 cN) (OdP f g ∧ (OdQ f g f g → K (.agg [.sl u 0 33 cu, .sl c 0 33 cc]) ((m.set u (.ints .i64 uN f)).set c (.ints .i64 cN g))) ∧
        ∀ h1 h2 : Nat → Int, OdQ f g h1 h2 → K (.agg [.sl m.length 0 33 33, .sl (m.length + 1) 0 33 33]) ((m.set u (.ints .i64 uN f)).set c (.ints .i64 cN g) ++ [.ints .i64 33 h1, .ints .i64 33 h2]))
    | _ => False
  | _ => False) G
theorem G55_ok {G : GOrc} (hG : GOrcOK Tryd.prog G) : GOrcOK Tryd.prog (G55 G) := by
  refine extG_ok hG fun vs m K h => ?_
  split at h
  · split at h
    · rename_i _ _ _ _ _ _ _ _ _ _ cu cc uN f cN g hv
      obtain ⟨hg, ⟨⟨p1, p2⟩, p3, p4⟩, hk1, hk2⟩ := gB_t h
      simp only [Bool.and_eq_true] at hg
      obtain ⟨eu, rfl⟩ : ∃ e, uN = e + 33 := ⟨uN - 33, by have := bleT.1 hg.1; omega⟩
      obtain ⟨ec, rfl⟩ : ∃ e, cN = e + 33 := ⟨cN - 33, by have := bleT.1 hg.2; omega⟩
      refine gens_okl Tryd.func55 (by kernel_rfl) (by kernel_rfl) (own := [_, _]) hv (T := fun t => odT1 cu cc eu ec f g t ∨ odT2 eu ec f g t) (fun v m' hk => od_told hk) (odd_all cu cc eu ec f g (odI_0 p1 p2 p3 p4)) (Nat.le_of_ble_eq_true (by kernel_rfl)) (by kernel_rfl) rfl (fun t ht => ?_)
      rcases ht with ⟨hq, rfl⟩ | ⟨h1, h2, hq, rfl⟩
      · have := hk1 hq
        rw [← List.append_nil ((m.set _ _).set _ _)] at this
        exact this
      · exact hk2 h1 h2 hq
    · exact h.elim
  · exact h.elim
end Go.Proofs.YtnoehjibponofaaDoor
