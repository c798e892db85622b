/-
  held, sameNumbers; same of lists that may be nil. Conditions: none.
-/
import Derived.Test.YtomipglebaaagaaRK
namespace Go.Proofs.Ytomipglebaaagaa
open Go.Ev
set_option linter.unusedVariables false
set_option linter.unusedSimpArgs false
def hdB (r t : Int) (n : Nat) : Bool := decide (0 ≤ r ∧ r ≤ 4096 ∧ 0 ≤ t ∧ t ≤ 4096 ∧ n ≤ 1000)
noncomputable def hdO : Int → Int → Nat → Bool := Classical.choose (hide_ex hdB)
theorem hdO_eq : hdO = hdB := Classical.choose_spec (hide_ex hdB)
def eqI : Nat → (Nat → Int) → (Nat → Int) → Bool
  | 0, _, _ => true
  | n + 1, f, g => eqI n f g && (f n == g n)
theorem eqI_iff {f g : Nat → Int} : ∀ {n : Nat}, eqI n f g = true ↔ ∀ j, j < n → f j = g j
  | 0 => ⟨fun _ j hj => by omega, fun _ => rfl⟩
  | n + 1 => by
    simp only [eqI, Bool.and_eq_true, beq_iff_eq, eqI_iff (n := n)]
    constructor
    · intro ⟨h1, h2⟩ j hj
      by_cases e : j = n
      · subst e; exact h2
      · exact h1 j (by omega)
    · exact fun h => ⟨fun j hj => h j (by omega), h n (by omega)⟩
def nmB (ka : Nat) (fa : Nat → Int) (kb : Nat) (fb : Nat → Int) : Bool := decide (ka = kb) && eqI ka fa fb
noncomputable def nmO : Nat → (Nat → Int) → Nat → (Nat → Int) → Bool := Classical.choose (hide_ex nmB)
theorem nmO_eq : nmO = nmB := Classical.choose_spec (hide_ex nmB)
theorem nm_yes {ka kb : Nat} {fa fb : Nat → Int} (h1 : ka = kb) (h2 : ∀ j, j < ka → fa j = fb j) : nmO ka fa kb fb = true := by
  rw [nmO_eq]; unfold nmB; rw [decide_eq_true h1, eqI_iff.2 h2]; rfl
theorem nm_no {ka kb : Nat} {fa fb : Nat → Int} (h : ¬ (ka = kb ∧ ∀ j, j < ka → fa j = fb j)) : nmO ka fa kb fb = false := by
  cases e : nmO ka fa kb fb with
  | false => rfl
  | true =>
    rw [nmO_eq] at e; unfold nmB at e
    simp only [Bool.and_eq_true, decide_eq_true_eq, eqI_iff] at e
    exact absurd e h
theorem hda_s_s (s r t : Int) (n c xN : Nat) (f : Nat → Bool) (T : List V) : awq Try.prog orc0 nG 1 1200 (body Try.f16) (ends Try.prog Try.f16 (fun v _ => okV (V.bool (hdO r t n)) v)) ⟨ovr 27 [0] [(rf s r 0 n c t)] T, [(V.tup [(V.bools xN f)])]⟩ = (mB (decide (r ≥ 0)) (mB (decide (r ≤ 4096)) (mB (decide (t ≥ 0)) (mB (decide (t ≤ 4096)) (okV (V.bool (hdO r t n)) (V.bool (decide (((n : Nat) : Int) ≤ 1000)))) (okV (V.bool (hdO r t n)) (V.bool false))) (okV (V.bool (hdO r t n)) (V.bool false))) (okV (V.bool (hdO r t n)) (V.bool false))) (okV (V.bool (hdO r t n)) (V.bool false))) := by kernel_rfl
abbrev hda_Ka0 (r t : Int) (n : Nat) : List V → List V → Prop := OkL Try.prog 1 27 [0] (body Try.f16) (ends Try.prog Try.f16 (fun v _ => okV (V.bool (hdO r t n)) v))
theorem hda_all (s r t : Int) (n c xN : Nat) (f : Nat → Bool) (hn : n ≤ 140737488355328) : (hda_Ka0 r t n) [(rf s r 0 n c t)] [(V.tup [(V.bools xN f)])] := by
  exact okl_all hM orc0_ok nG_ok (N := 1200) (fun T => Eq.mpr (hda_s_s s r t n c xN f T ) (mBt (fun h0 => have g0 := of_decide_eq_true h0; (mBt (fun h1 => have g1 := of_decide_eq_true h1; (mBt (fun h2 => have g2 := of_decide_eq_true h2; (mBt (fun h3 => have g3 := of_decide_eq_true h3; (okV_bool (by rw [hdO_eq]; unfold hdB; rw [decide_eq_decide]; omega))) (fun h3 => have g3 := of_decide_eq_false h3; (okV_bool (by rw [hdO_eq]; exact (decide_eq_false (by omega)).symm))))) (fun h2 => have g2 := of_decide_eq_false h2; (okV_bool (by rw [hdO_eq]; exact (decide_eq_false (by omega)).symm))))) (fun h1 => have g1 := of_decide_eq_false h1; (okV_bool (by rw [hdO_eq]; exact (decide_eq_false (by omega)).symm))))) (fun h0 => have g0 := of_decide_eq_false h0; (okV_bool (by rw [hdO_eq]; exact (decide_eq_false (by omega)).symm)))))
theorem hdn_s_s (s r t : Int) (T : List V) : awq Try.prog orc0 nG 0 1200 (body Try.f16) (ends Try.prog Try.f16 (fun v _ => okV (V.bool (hdO r t 0)) v)) ⟨ovr 27 [0] [(V.agg [(V.int .i64 s), (V.int .i64 r), V.snil, (V.int .i64 t)])] T, []⟩ = (mB (decide (r ≥ 0)) (mB (decide (r ≤ 4096)) (mB (decide (t ≥ 0)) (mB (decide (t ≤ 4096)) (okV (V.bool (hdO r t 0)) (V.bool true)) (okV (V.bool (hdO r t 0)) (V.bool false))) (okV (V.bool (hdO r t 0)) (V.bool false))) (okV (V.bool (hdO r t 0)) (V.bool false))) (okV (V.bool (hdO r t 0)) (V.bool false))) := by kernel_rfl
abbrev hdn_Ka0 (r t : Int) : List V → List V → Prop := OkL Try.prog 0 27 [0] (body Try.f16) (ends Try.prog Try.f16 (fun v _ => okV (V.bool (hdO r t 0)) v))
theorem hdn_all (s r t : Int) : (hdn_Ka0 r t) [(V.agg [(V.int .i64 s), (V.int .i64 r), V.snil, (V.int .i64 t)])] [] := by
  exact okl_all hM orc0_ok nG_ok (N := 1200) (fun T => Eq.mpr (hdn_s_s s r t T ) (mBt (fun h0 => have g0 := of_decide_eq_true h0; (mBt (fun h1 => have g1 := of_decide_eq_true h1; (mBt (fun h2 => have g2 := of_decide_eq_true h2; (mBt (fun h3 => have g3 := of_decide_eq_true h3; (okV_bool (by rw [hdO_eq]; exact (decide_eq_true (by omega)).symm))) (fun h3 => have g3 := of_decide_eq_false h3; (okV_bool (by rw [hdO_eq]; exact (decide_eq_false (by omega)).symm))))) (fun h2 => have g2 := of_decide_eq_false h2; (okV_bool (by rw [hdO_eq]; exact (decide_eq_false (by omega)).symm))))) (fun h1 => have g1 := of_decide_eq_false h1; (okV_bool (by rw [hdO_eq]; exact (decide_eq_false (by omega)).symm))))) (fun h0 => have g0 := of_decide_eq_false h0; (okV_bool (by rw [hdO_eq]; exact (decide_eq_false (by omega)).symm)))))
noncomputable def g16 : List V → List V → Option (Bool × V) := fun vs m => match views [] vs m with
  | some ([.agg [.int .i64 s, .int .i64 r, .sl 0 0 n c, .int .i64 t]], [.tup [.bools xN f]]) => some (Nat.ble n 140737488355328, .bool (hdO r t n))
  | some ([.agg [.int .i64 s, .int .i64 r, .snil, .int .i64 t]], []) => some (true, .bool (hdO r t 0))
  | _ => none
theorem g16_ok (vs m : List V) (v : V) (h : g16 vs m = some (true, v)) : v.flat = true ∧ ∀ μ B w0 w, Under B w0 → Rel μ B w0 m w → PureAt Try.prog 16 (vs.map (V.den μ)).toArray (v.den μ) w := by
  unfold g16 at h
  split at h
  · rename_i s r n c t xN f hv
    simp only [Option.some.injEq, Prod.mk.injEq, Bool.and_eq_true, true_and] at h
    obtain ⟨hg, rfl⟩ := h
    refine ⟨rfl, ?_⟩
    exact reads_okl Try.func16 (by kernel_rfl) (by kernel_rfl) hv rfl (hda_all s r t n c xN f (bleT.1 hg)) (Nat.le_of_ble_eq_true (by kernel_rfl)) (by kernel_rfl) rfl
  · rename_i s r t hv
    simp only [Option.some.injEq, Prod.mk.injEq, Bool.and_eq_true, true_and] at h
    subst h
    refine ⟨rfl, ?_⟩
    exact reads_okl Try.func16 (by kernel_rfl) (by kernel_rfl) hv rfl (hdn_all s r t) (Nat.le_of_ble_eq_true (by kernel_rfl)) (by kernel_rfl) rfl
  · cases h
theorem g16_grow (vs m : List V) (z : V) (r : Bool × V) (h : g16 vs m = some r) : g16 vs (m ++ [z]) = some r := by
  unfold g16 at h ⊢
  cases hv : views [] vs m with
  | none => rw [hv] at h; cases h
  | some p => rw [hv] at h; rw [views_grow hv]; exact h
noncomputable def o16 : Orc := extM 16 g16 o37
theorem o16_ok : OrcOK Try.prog o16 := extM_ok o37_ok g16_ok g16_grow
theorem nms_z_s (ka ca Na kb cb Nb : Nat) (fa fb : Nat → Int) (T : List V) : awq Try.prog orc0 nG 2 1200 (dropC 2 (body Try.f25)) (ends Try.prog Try.f25 (fun v _ => okV (V.bool (nmO ka fa kb fb)) v)) ⟨ovr 26 [] [] T, [(V.tup [(V.ints .i64 Na fa)]), (V.tup [(V.ints .i64 Nb fb)])]⟩ = (okV (V.bool (nmO ka fa kb fb)) (V.bool true)) := by kernel_rfl
abbrev nms_Ka3 (ka : Nat) (fa : Nat → Int) (kb : Nat) (fb : Nat → Int) : List V → List V → Prop := OkL Try.prog 2 26 [] (dropC 2 (body Try.f25)) (ends Try.prog Try.f25 (fun v _ => okV (V.bool (nmO ka fa kb fb)) v))
theorem nms_z (ka ca Na kb cb Nb : Nat) (fa fb : Nat → Int) (ha : ka ≤ Na) (hb : kb ≤ Nb) (h9 : ka ≤ 1100) (he : ka = kb) (hE : ∀ j, j < ka → fa j = fb j) : (nms_Ka3 ka fa kb fb) [] [(V.tup [(V.ints .i64 Na fa)]), (V.tup [(V.ints .i64 Nb fb)])] := by
  exact okl_all hM orc0_ok nG_ok (N := 1200) (fun T => Eq.mpr (nms_z_s ka ca Na kb cb Nb fa fb T ) (okV_bool (nm_yes he hE).symm))
abbrev nms_Klh (ka : Nat) (fa : Nat → Int) (kb : Nat) (fb : Nat → Int) (w1 : Nat) : List V → List V → Prop := OkH Try.prog 2 26 [0, 1, 5] (lopC (blkC (dropC 0 (takeC 0 (dropC 1 (body Try.f25)))))) (blkQ 0 (segQ 26 [] (nms_Ka3 ka fa kb fb) (ends Try.prog Try.f25 (fun v _ => okV (V.bool (nmO ka fa kb fb)) v)))) w1
abbrev nms_Kl2 (ka : Nat) (fa : Nat → Int) (kb : Nat) (fb : Nat → Int) (w1 : Nat) : List V → List V → Prop := OkL Try.prog 2 26 [0, 1, 5] (dropC 1 (lopC (blkC (dropC 0 (takeC 0 (dropC 1 (body Try.f25))))))) (segQ 26 [0, 1, 5] (nms_Klh ka fa kb fb w1) (blkQ 0 (segQ 26 [] (nms_Ka3 ka fa kb fb) (ends Try.prog Try.f25 (fun v _ => okV (V.bool (nmO ka fa kb fb)) v)))))
theorem nms_l2_s (ka ca Na kb cb Nb : Nat) (fa fb : Nat → Int) (i : Int) (T : List V) (k0 k1 : List V → List V → Prop) : awq Try.prog orc0 nG 2 1200 (dropC 1 (lopC (blkC (dropC 0 (takeC 0 (dropC 1 (body Try.f25))))))) (segQ 26 [0, 1, 5] k0 (blkQ 0 (segQ 26 [] k1 (ends Try.prog Try.f25 (fun v _ => okV (V.bool (nmO ka fa kb fb)) v))))) ⟨ovr 26 [0, 1, 5] [(vS 0 ka ca), (vS 1 kb cb), (vI i)] T, [(V.tup [(V.ints .i64 Na fa)]), (V.tup [(V.ints .i64 Nb fb)])]⟩ = (k0 [(vS 0 ka ca), (vS 1 kb cb), (vI (addI .i64 i 1))] [(V.tup [(V.ints .i64 Na fa)]), (V.tup [(V.ints .i64 Nb fb)])]) := by kernel_rfl
theorem nms_l2 (w1 : Nat) (ka ca Na kb cb Nb : Nat) (fa fb : Nat → Int) (i : Int) (p : Nat) (hE : ∀ j, j < p + 1 → fa j = fb j) (IH : (∀ j, j < p + 1 → fa j = fb j) → (nms_Klh ka fa kb fb w1) [(vS 0 ka ca), (vS 1 kb cb), (vI (addI .i64 i 1))] [(V.tup [(V.ints .i64 Na fa)]), (V.tup [(V.ints .i64 Nb fb)])]) : (nms_Kl2 ka fa kb fb w1) [(vS 0 ka ca), (vS 1 kb cb), (vI i)] [(V.tup [(V.ints .i64 Na fa)]), (V.tup [(V.ints .i64 Nb fb)])] := by
  exact okl_all hM orc0_ok nG_ok (N := 1200) (fun T => Eq.mpr (nms_l2_s ka ca Na kb cb Nb fa fb i T (nms_Klh ka fa kb fb w1) (nms_Ka3 ka fa kb fb)) (IH hE))
theorem nms_c0_s (ka ca Na kb cb Nb : Nat) (fa fb : Nat → Int) (i : Int) (T : List V) (k0 k1 k2 : List V → List V → Prop) : awq Try.prog orc0 nG 2 1200 (blkC (takeC 0 (dropC 0 (lopC (blkC (dropC 0 (takeC 0 (dropC 1 (body Try.f25))))))))) (blkQ 1 (segQ 26 [0, 1, 5] k0 (segQ 26 [0, 1, 5] k1 (blkQ 0 (segQ 26 [] k2 (ends Try.prog Try.f25 (fun v _ => okV (V.bool (nmO ka fa kb fb)) v))))))) ⟨ovr 26 [0, 1, 5] [(vS 0 ka ca), (vS 1 kb cb), (vI i)] T, [(V.tup [(V.ints .i64 Na fa)]), (V.tup [(V.ints .i64 Nb fb)])]⟩ = (gB (decide (0 ≤ i ∧ i < ka)) (gB (Nat.blt (0 + (Int.toNat i * 1)) Na) (gB (decide (0 ≤ i ∧ i < kb)) (gB (Nat.blt (0 + (Int.toNat i * 1)) Nb) (mB ((fa (0 + (Int.toNat i * 1))) != (fb (0 + (Int.toNat i * 1)))) (okV (V.bool (nmO ka fa kb fb)) (V.bool false)) (k0 [(vS 0 ka ca), (vS 1 kb cb), (vI i)] [(V.tup [(V.ints .i64 Na fa)]), (V.tup [(V.ints .i64 Nb fb)])])))))) := by kernel_rfl
abbrev nms_Kc0 (ka : Nat) (fa : Nat → Int) (kb : Nat) (fb : Nat → Int) (w1 : Nat) : List V → List V → Prop := OkL Try.prog 2 26 [0, 1, 5] (blkC (takeC 0 (dropC 0 (lopC (blkC (dropC 0 (takeC 0 (dropC 1 (body Try.f25))))))))) (blkQ 1 (segQ 26 [0, 1, 5] (nms_Kl2 ka fa kb fb w1) (segQ 26 [0, 1, 5] (nms_Klh ka fa kb fb w1) (blkQ 0 (segQ 26 [] (nms_Ka3 ka fa kb fb) (ends Try.prog Try.f25 (fun v _ => okV (V.bool (nmO ka fa kb fb)) v)))))))
theorem nms_c0 (w1 : Nat) (ka ca Na kb cb Nb : Nat) (fa fb : Nat → Int) (i : Int) (ha : ka ≤ Na) (hb : kb ≤ Nb) (h9 : ka ≤ 1100) (he : ka = kb) (p : Nat) (hi : i = (p : Int)) (hE : ∀ j, j < p → fa j = fb j) (hp : p < ka) (IH : (∀ j, j < p + 1 → fa j = fb j) → (nms_Klh ka fa kb fb w1) [(vS 0 ka ca), (vS 1 kb cb), (vI (addI .i64 i 1))] [(V.tup [(V.ints .i64 Na fa)]), (V.tup [(V.ints .i64 Nb fb)])]) : (nms_Kc0 ka fa kb fb w1) [(vS 0 ka ca), (vS 1 kb cb), (vI i)] [(V.tup [(V.ints .i64 Na fa)]), (V.tup [(V.ints .i64 Nb fb)])] := by
  have hx : 0 + (Int.toNat i * 1) = p := by rw [hi]; exact ix p
  have hstep : fa p = fb p → ∀ j, j < p + 1 → fa j = fb j := fun e0 j hj => by
    by_cases e : j = p
    · subst e; exact e0
    · exact hE j (by omega)
  exact okl_all hM orc0_ok nG_ok (N := 1200) (fun T => Eq.mpr (nms_c0_s ka ca Na kb cb Nb fa fb i T (nms_Kl2 ka fa kb fb w1) (nms_Klh ka fa kb fb w1) (nms_Ka3 ka fa kb fb)) (gm (decide_eq_true (by omega)) (gm (bltT.2 (by omega)) (gm (decide_eq_true (by omega)) (gm (bltT.2 (by omega)) (mBt (fun h0 => (okV_bool (nm_no (fun e => by have := h0; rw [hx] at this; simp [e.2 p hp] at this)).symm)) (fun h0 => (nms_l2 w1 ka ca Na kb cb Nb fa fb i p (hstep (by have := h0; rw [hx] at this; simpa using this)) IH))))))))
theorem nms_h_s (ka ca Na kb cb Nb : Nat) (fa fb : Nat → Int) (i : Int) (T : List V) (kk k0 k1 : List V → List V → Prop) : awq Try.prog orc0 nG 2 1200 (takeC 0 (lopC (blkC (dropC 0 (takeC 0 (dropC 1 (body Try.f25))))))) (segQ 26 [0, 1, 5] kk (segQ 26 [0, 1, 5] k0 (blkQ 0 (segQ 26 [] k1 (ends Try.prog Try.f25 (fun v _ => okV (V.bool (nmO ka fa kb fb)) v)))))) ⟨ovr 26 [0, 1, 5] [(vS 0 ka ca), (vS 1 kb cb), (vI i)] T, [(V.tup [(V.ints .i64 Na fa)]), (V.tup [(V.ints .i64 Nb fb)])]⟩ = (mB (decide (i < ((ka : Nat) : Int))) (kk [(vS 0 ka ca), (vS 1 kb cb), (vI i)] [(V.tup [(V.ints .i64 Na fa)]), (V.tup [(V.ints .i64 Nb fb)])]) (k1 [] [(V.tup [(V.ints .i64 Na fa)]), (V.tup [(V.ints .i64 Nb fb)])])) := by kernel_rfl
abbrev nms_Kl1 (ka : Nat) (fa : Nat → Int) (kb : Nat) (fb : Nat → Int) (w1 : Nat) : List V → List V → Prop := OkL Try.prog 2 26 [0, 1, 5] (dropC 0 (lopC (blkC (dropC 0 (takeC 0 (dropC 1 (body Try.f25))))))) (segQ 26 [0, 1, 5] (nms_Klh ka fa kb fb w1) (blkQ 0 (segQ 26 [] (nms_Ka3 ka fa kb fb) (ends Try.prog Try.f25 (fun v _ => okV (V.bool (nmO ka fa kb fb)) v)))))
theorem nms_h (w1 : Nat) (ka ca Na kb cb Nb : Nat) (fa fb : Nat → Int) (i : Int) (ha : ka ≤ Na) (hb : kb ≤ Nb) (h9 : ka ≤ 1100) (he : ka = kb) (p : Nat) (hi : i = (p : Int)) (hE : ∀ j, j < p → fa j = fb j) (hp : p ≤ ka) (IHH : p < ka → (∀ j, j < p + 1 → fa j = fb j) → (nms_Klh ka fa kb fb w1) [(vS 0 ka ca), (vS 1 kb cb), (vI (addI .i64 i 1))] [(V.tup [(V.ints .i64 Na fa)]), (V.tup [(V.ints .i64 Nb fb)])]) : (nms_Klh ka fa kb fb (w1 + 1)) [(vS 0 ka ca), (vS 1 kb cb), (vI i)] [(V.tup [(V.ints .i64 Na fa)]), (V.tup [(V.ints .i64 Nb fb)])] := by
  exact okh_round (okl_seg hM orc0_ok nG_ok (N := 1200) 0 (by kernel_rfl) (show dropC 0 (lopC (blkC (dropC 0 (takeC 0 (dropC 1 (body Try.f25)))))) = (dropC 0 (lopC (blkC (dropC 0 (takeC 0 (dropC 1 (body Try.f25))))))) by kernel_rfl)  (fun T => Eq.mpr (nms_h_s ka ca Na kb cb Nb fa fb i T (nms_Kl1 ka fa kb fb w1) (nms_Klh ka fa kb fb w1) (nms_Ka3 ka fa kb fb)) (mBt (fun h0 => have g0 := of_decide_eq_true h0; (okl_fst (by kernel_rfl) rfl (by kernel_rfl) (okl_blk (id := 1) (d := (blkC (takeC 0 (dropC 0 (lopC (blkC (dropC 0 (takeC 0 (dropC 1 (body Try.f25)))))))))) (by kernel_rfl) (nms_c0 w1 ka ca Na kb cb Nb fa fb i ha hb h9 he p hi hE (by omega) (IHH (by omega)))))) (fun h0 => have g0 := of_decide_eq_false h0; (nms_z ka ca Na kb cb Nb fa fb ha hb h9 he (fun j hj => hE j (by omega)))))))
theorem nms_hd (ka ca Na kb cb Nb : Nat) (fa fb : Nat → Int) (ha : ka ≤ Na) (hb : kb ≤ Nb) (h9 : ka ≤ 1100) (he : ka = kb) : ∀ (w1 p : Nat) (i : Int), p + w1 = ka → i = (p : Int) → (∀ j, j < p → fa j = fb j) → (nms_Klh ka fa kb fb (w1 + 1)) [(vS 0 ka ca), (vS 1 kb cb), (vI i)] [(V.tup [(V.ints .i64 Na fa)]), (V.tup [(V.ints .i64 Nb fb)])]
  | 0, p, i, hp, hi, hE => nms_h 0 ka ca Na kb cb Nb fa fb i ha hb h9 he p hi hE (by omega) (fun h => absurd h (by omega))
  | w1 + 1, p, i, hp, hi, hE => nms_h (w1 + 1) ka ca Na kb cb Nb fa fb i ha hb h9 he p hi hE (by omega) (fun _ hE => nms_hd ka ca Na kb cb Nb fa fb ha hb h9 he w1 (p + 1) _ (by omega) (by rw [hi]; exact add1_nat p (by omega)) hE)
theorem nms_i0_s (ka ca Na kb cb Nb : Nat) (fa fb : Nat → Int) (T : List V) (kk k0 : List V → List V → Prop) : awq Try.prog orc0 nG 2 1200 (takeC 0 (takeC 0 (dropC 1 (body Try.f25)))) (segQ 26 [0, 1, 5] kk (segQ 26 [] k0 (ends Try.prog Try.f25 (fun v _ => okV (V.bool (nmO ka fa kb fb)) v)))) ⟨ovr 26 [0, 1] [(vS 0 ka ca), (vS 1 kb cb)] T, [(V.tup [(V.ints .i64 Na fa)]), (V.tup [(V.ints .i64 Nb fb)])]⟩ = (kk [(vS 0 ka ca), (vS 1 kb cb), (vI 0)] [(V.tup [(V.ints .i64 Na fa)]), (V.tup [(V.ints .i64 Nb fb)])]) := by kernel_rfl
abbrev nms_Ks0 (ka : Nat) (fa : Nat → Int) (kb : Nat) (fb : Nat → Int) : List V → List V → Prop := OkL Try.prog 2 26 [0, 1] (takeC 0 (dropC 1 (body Try.f25))) (segQ 26 [] (nms_Ka3 ka fa kb fb) (ends Try.prog Try.f25 (fun v _ => okV (V.bool (nmO ka fa kb fb)) v)))
abbrev nms_Ks1 (ka : Nat) (fa : Nat → Int) (kb : Nat) (fb : Nat → Int) : List V → List V → Prop := OkL Try.prog 2 26 [0, 1, 5] (dropC 0 (takeC 0 (dropC 1 (body Try.f25)))) (segQ 26 [] (nms_Ka3 ka fa kb fb) (ends Try.prog Try.f25 (fun v _ => okV (V.bool (nmO ka fa kb fb)) v)))
theorem nms_i0 (ka ca Na kb cb Nb : Nat) (fa fb : Nat → Int) (ha : ka ≤ Na) (hb : kb ≤ Nb) (h9 : ka ≤ 1100) (he : ka = kb) : (nms_Ks0 ka fa kb fb) [(vS 0 ka ca), (vS 1 kb cb)] [(V.tup [(V.ints .i64 Na fa)]), (V.tup [(V.ints .i64 Nb fb)])] := by
  exact okl_seg hM orc0_ok nG_ok (N := 1200) 0 (by kernel_rfl) (show dropC 0 (takeC 0 (dropC 1 (body Try.f25))) = (dropC 0 (takeC 0 (dropC 1 (body Try.f25)))) by kernel_rfl) (fun T => Eq.mpr (nms_i0_s ka ca Na kb cb Nb fa fb T (nms_Ks1 ka fa kb fb) (nms_Ka3 ka fa kb fb)) (okl_blk (id := 0) (d := (blkC (dropC 0 (takeC 0 (dropC 1 (body Try.f25)))))) (by kernel_rfl) (okl_loop (ka + 1) (by kernel_rfl) (nms_hd ka ca Na kb cb Nb fa fb ha hb h9 he ka 0 0 (by omega) rfl (fun j hj => by omega)))))
theorem nms_s_s (ka ca Na kb cb Nb : Nat) (fa fb : Nat → Int) (T : List V) (kk : List V → List V → Prop) : awq Try.prog orc0 nG 2 1200 (takeC 1 (body Try.f25)) (segQ 26 [0, 1] kk (ends Try.prog Try.f25 (fun v _ => okV (V.bool (nmO ka fa kb fb)) v))) ⟨ovr 26 [0, 1] [(vS 0 ka ca), (vS 1 kb cb)] T, [(V.tup [(V.ints .i64 Na fa)]), (V.tup [(V.ints .i64 Nb fb)])]⟩ = (mB (((ka : Nat) : Int) != ((kb : Nat) : Int)) (okV (V.bool (nmO ka fa kb fb)) (V.bool false)) (kk [(vS 0 ka ca), (vS 1 kb cb)] [(V.tup [(V.ints .i64 Na fa)]), (V.tup [(V.ints .i64 Nb fb)])])) := by kernel_rfl
abbrev nms_Ka0 (ka : Nat) (fa : Nat → Int) (kb : Nat) (fb : Nat → Int) : List V → List V → Prop := OkL Try.prog 2 26 [0, 1] (body Try.f25) (ends Try.prog Try.f25 (fun v _ => okV (V.bool (nmO ka fa kb fb)) v))
abbrev nms_Ka2 (ka : Nat) (fa : Nat → Int) (kb : Nat) (fb : Nat → Int) : List V → List V → Prop := OkL Try.prog 2 26 [0, 1] (dropC 1 (body Try.f25)) (ends Try.prog Try.f25 (fun v _ => okV (V.bool (nmO ka fa kb fb)) v))
theorem nms_all (ka ca Na kb cb Nb : Nat) (fa fb : Nat → Int) (ha : ka ≤ Na) (hb : kb ≤ Nb) (h9 : ka ≤ 1100) : (nms_Ka0 ka fa kb fb) [(vS 0 ka ca), (vS 1 kb cb)] [(V.tup [(V.ints .i64 Na fa)]), (V.tup [(V.ints .i64 Nb fb)])] := by
  exact okl_seg hM orc0_ok nG_ok (N := 1200) 1 (by kernel_rfl) (show dropC 1 (body Try.f25) = (dropC 1 (body Try.f25)) by kernel_rfl) (fun T => Eq.mpr (nms_s_s ka ca Na kb cb Nb fa fb T (nms_Ka2 ka fa kb fb)) (mBt (fun h0 => (okV_bool (nm_no (fun e => by have := h0; simp at this; omega)).symm)) (fun h0 => (okl_fst (by kernel_rfl) rfl (by kernel_rfl) (nms_i0 ka ca Na kb cb Nb fa fb ha hb h9 (by have := h0; simp at this; omega))))))
theorem nmn_s_s (T : List V) : awq Try.prog orc0 nG 0 1200 (body Try.f25) (ends Try.prog Try.f25 (fun v _ => okV (V.bool true) v)) ⟨ovr 26 [0, 1] [V.snil, V.snil] T, []⟩ = (okV (V.bool true) (V.bool true)) := by kernel_rfl
abbrev nmn_Ka0 : List V → List V → Prop := OkL Try.prog 0 26 [0, 1] (body Try.f25) (ends Try.prog Try.f25 (fun v _ => okV (V.bool true) v))
theorem nmn_all : nmn_Ka0 [V.snil, V.snil] [] := by
  exact okl_all hM orc0_ok nG_ok (N := 1200) (fun T => Eq.mpr (nmn_s_s  T ) (okV_bool rfl))
noncomputable def g25 : List V → List V → Option (Bool × V) := fun vs m => match views [] vs m with
  | some ([.sl 0 0 ka ca, .sl 1 0 kb cb], [.tup [.ints .i64 Na fa], .tup [.ints .i64 Nb fb]]) => some ((Nat.ble ka Na && Nat.ble kb Nb) && Nat.ble ka 1100, .bool (nmO ka fa kb fb))
  | some ([.snil, .snil], []) => some (true, .bool true)
  | _ => none
theorem g25_ok (vs m : List V) (v : V) (h : g25 vs m = some (true, v)) : v.flat = true ∧ ∀ μ B w0 w, Under B w0 → Rel μ B w0 m w → PureAt Try.prog 25 (vs.map (V.den μ)).toArray (v.den μ) w := by
  unfold g25 at h
  split at h
  · rename_i ka ca kb cb Na fa Nb fb hv
    simp only [Option.some.injEq, Prod.mk.injEq, Bool.and_eq_true, true_and] at h
    obtain ⟨hg, rfl⟩ := h
    refine ⟨rfl, ?_⟩
    exact reads_okl Try.func25 (by kernel_rfl) (by kernel_rfl) hv rfl (nms_all ka ca Na kb cb Nb fa fb (bleT.1 hg.1.1) (bleT.1 hg.1.2) (bleT.1 hg.2)) (Nat.le_of_ble_eq_true (by kernel_rfl)) (by kernel_rfl) rfl
  · rename_i  hv
    simp only [Option.some.injEq, Prod.mk.injEq, Bool.and_eq_true, true_and] at h
    subst h
    refine ⟨rfl, ?_⟩
    exact reads_okl Try.func25 (by kernel_rfl) (by kernel_rfl) hv rfl nmn_all (Nat.le_of_ble_eq_true (by kernel_rfl)) (by kernel_rfl) rfl
  · cases h
theorem g25_grow (vs m : List V) (z : V) (r : Bool × V) (h : g25 vs m = some r) : g25 vs (m ++ [z]) = some r := by
  unfold g25 at h ⊢
  cases hv : views [] vs m with
  | none => rw [hv] at h; cases h
  | some p => rw [hv] at h; rw [views_grow hv]; exact h
noncomputable def o25 : Orc := extM 25 g25 o16
theorem o25_ok : OrcOK Try.prog o25 := extM_ok o16_ok g25_ok g25_grow
end Go.Proofs.Ytomipglebaaagaa
