/-
  same of lists that may be nil; told, held as callees. Conditions: none.
-/
import Derived.Test.YtomipglebaaagaaRQ
namespace Go.Proofs.Ytomipglebaaagaa
open Go.Ev
set_option linter.unusedVariables false
set_option linter.unusedSimpArgs false
theorem smz_s_s (s r t sb rb tb : Int) (T : List V) : awq Try.prog orc0 nG 0 1200 (body Try.f22) (ends Try.prog Try.f22 (fun v _ => okV (V.bool (samO s r t 0 (fun _ => false) sb rb tb 0 (fun _ => false))) v)) ⟨ovr 52 [0, 1] [(V.agg [(V.int .i64 s), (V.int .i64 r), V.snil, (V.int .i64 t)]), (V.agg [(V.int .i64 sb), (V.int .i64 rb), V.snil, (V.int .i64 tb)])] T, []⟩ = (mB (s != sb) (okV (V.bool (samO s r t 0 (fun _ => false) sb rb tb 0 (fun _ => false))) (V.bool false)) (mB (r != rb) (okV (V.bool (samO s r t 0 (fun _ => false) sb rb tb 0 (fun _ => false))) (V.bool false)) (mB (t != tb) (okV (V.bool (samO s r t 0 (fun _ => false) sb rb tb 0 (fun _ => false))) (V.bool false)) (okV (V.bool (samO s r t 0 (fun _ => false) sb rb tb 0 (fun _ => false))) (V.bool true))))) := by kernel_rfl
abbrev smz_Ka0 (s r t : Int) (sb rb tb : Int) : List V → List V → Prop := OkL Try.prog 0 52 [0, 1] (body Try.f22) (ends Try.prog Try.f22 (fun v _ => okV (V.bool (samO s r t 0 (fun _ => false) sb rb tb 0 (fun _ => false))) v))
theorem smz_all (s r t sb rb tb : Int) : (smz_Ka0 s r t sb rb tb) [(V.agg [(V.int .i64 s), (V.int .i64 r), V.snil, (V.int .i64 t)]), (V.agg [(V.int .i64 sb), (V.int .i64 rb), V.snil, (V.int .i64 tb)])] [] := by
  exact okl_all hM orc0_ok nG_ok (N := 1200) (fun T => Eq.mpr (smz_s_s s r t sb rb tb T ) (mBt (fun h0 => (okV_bool (sam_no (fun e => by have := h0; simp at this; omega)).symm)) (fun h0 => (mBt (fun h1 => (okV_bool (sam_no (fun e => by have := h1; simp at this; omega)).symm)) (fun h1 => (mBt (fun h2 => (okV_bool (sam_no (fun e => by have := h2; simp at this; omega)).symm)) (fun h2 => (okV_bool (sam_yes (by simpa using h0) (by simpa using h1) (by simpa using h2) rfl (fun j hj => by omega)).symm))))))))
theorem smy_z_s (s r t : Int) (n c xN : Nat) (f : Nat → Bool) (sb rb tb : Int) (T : List V) : awq Try.prog orc0 nG 1 1200 (dropC 2 (body Try.f22)) (ends Try.prog Try.f22 (fun v _ => okV (V.bool (samO s r t n f sb rb tb 0 (fun _ => false))) v)) ⟨ovr 52 [] [] T, [(V.tup [(V.bools xN f)])]⟩ = (okV (V.bool (samO s r t n f sb rb tb 0 (fun _ => false))) (V.bool true)) := by kernel_rfl
abbrev smy_Ka3 (s r t : Int) (n : Nat) (f : Nat → Bool) (sb rb tb : Int) : List V → List V → Prop := OkL Try.prog 1 52 [] (dropC 2 (body Try.f22)) (ends Try.prog Try.f22 (fun v _ => okV (V.bool (samO s r t n f sb rb tb 0 (fun _ => false))) v))
theorem smy_z (s r t : Int) (n c xN : Nat) (f : Nat → Bool) (sb rb tb : Int) (hj : samO s r t n f sb rb tb 0 (fun _ => false) = true) (hn : n = 0) : (smy_Ka3 s r t n f sb rb tb) [] [(V.tup [(V.bools xN f)])] := by
  exact okl_all hM orc0_ok nG_ok (N := 1200) (fun T => Eq.mpr (smy_z_s s r t n c xN f sb rb tb T ) (okV_bool hj.symm))
abbrev smy_Klh (s r t : Int) (n : Nat) (f : Nat → Bool) (sb rb tb : Int) (w1 : Nat) : List V → List V → Prop := OkH Try.prog 1 52 [2, 3, 5] (lopC (blkC (dropC 0 (takeC 0 (dropC 1 (body Try.f22)))))) (blkQ 0 (segQ 52 [] (smy_Ka3 s r t n f sb rb tb) (ends Try.prog Try.f22 (fun v _ => okV (V.bool (samO s r t n f sb rb tb 0 (fun _ => false))) v)))) w1
theorem smy_h_s (s r t : Int) (n c xN : Nat) (f : Nat → Bool) (sb rb tb : Int) (T : List V) (kk k0 k1 : List V → List V → Prop) : awq Try.prog orc0 nG 1 1200 (takeC 0 (lopC (blkC (dropC 0 (takeC 0 (dropC 1 (body Try.f22))))))) (segQ 52 [2, 3, 5] kk (segQ 52 [2, 3, 5] k0 (blkQ 0 (segQ 52 [] k1 (ends Try.prog Try.f22 (fun v _ => okV (V.bool (samO s r t n f sb rb tb 0 (fun _ => false))) v)))))) ⟨ovr 52 [2, 3, 5] [(vP 1), (vP 2), (vI 0)] T, [(V.tup [(V.bools xN f)]), (rf s r 0 n c t), (V.agg [(V.int .i64 sb), (V.int .i64 rb), V.snil, (V.int .i64 tb)])]⟩ = (mB (decide (0 < ((n : Nat) : Int))) (kk [(vP 1), (vP 2), (vI 0)] [(V.tup [(V.bools xN f)]), (rf s r 0 n c t), (V.agg [(V.int .i64 sb), (V.int .i64 rb), V.snil, (V.int .i64 tb)])]) (k1 [] [(V.tup [(V.bools xN f)]), (rf s r 0 n c t), (V.agg [(V.int .i64 sb), (V.int .i64 rb), V.snil, (V.int .i64 tb)])])) := by kernel_rfl
abbrev smy_Kl1 (s r t : Int) (n : Nat) (f : Nat → Bool) (sb rb tb : Int) (w1 : Nat) : List V → List V → Prop := OkL Try.prog 1 52 [2, 3, 5] (dropC 0 (lopC (blkC (dropC 0 (takeC 0 (dropC 1 (body Try.f22))))))) (segQ 52 [2, 3, 5] (smy_Klh s r t n f sb rb tb w1) (blkQ 0 (segQ 52 [] (smy_Ka3 s r t n f sb rb tb) (ends Try.prog Try.f22 (fun v _ => okV (V.bool (samO s r t n f sb rb tb 0 (fun _ => false))) v)))))
theorem smy_h (w1 : Nat) (s r t : Int) (n c xN : Nat) (f : Nat → Bool) (sb rb tb : Int) (hj : samO s r t n f sb rb tb 0 (fun _ => false) = true) (hn : n = 0) : (smy_Klh s r t n f sb rb tb (w1 + 1)) [(vP 1), (vP 2), (vI 0)] [(V.tup [(V.bools xN f)]), (rf s r 0 n c t), (V.agg [(V.int .i64 sb), (V.int .i64 rb), V.snil, (V.int .i64 tb)])] := by
  exact okh_round (okl_seg hM orc0_ok nG_ok (N := 1200) 0 (by kernel_rfl) (show dropC 0 (lopC (blkC (dropC 0 (takeC 0 (dropC 1 (body Try.f22)))))) = (dropC 0 (lopC (blkC (dropC 0 (takeC 0 (dropC 1 (body Try.f22))))))) by kernel_rfl)  (fun T => Eq.mpr (smy_h_s s r t n c xN f sb rb tb T (smy_Kl1 s r t n f sb rb tb w1) (smy_Klh s r t n f sb rb tb w1) (smy_Ka3 s r t n f sb rb tb)) (mBn (decide_eq_false (by omega)) (at_gc (ok_gc _ _ _ _) (smy_z s r t n c xN f sb rb tb hj hn) [0] (by kernel_rfl) (by kernel_rfl) (by kernel_rfl) (fun μ => by kernel_rfl)))))
theorem smy_i0_s (s r t : Int) (n c xN : Nat) (f : Nat → Bool) (sb rb tb : Int) (T : List V) (kk k0 : List V → List V → Prop) : awq Try.prog orc0 nG 1 1200 (takeC 0 (takeC 0 (dropC 1 (body Try.f22)))) (segQ 52 [2, 3, 5] kk (segQ 52 [] k0 (ends Try.prog Try.f22 (fun v _ => okV (V.bool (samO s r t n f sb rb tb 0 (fun _ => false))) v)))) ⟨ovr 52 [2, 3] [(vP 1), (vP 2)] T, [(V.tup [(V.bools xN f)]), (rf s r 0 n c t), (V.agg [(V.int .i64 sb), (V.int .i64 rb), V.snil, (V.int .i64 tb)])]⟩ = (kk [(vP 1), (vP 2), (vI 0)] [(V.tup [(V.bools xN f)]), (rf s r 0 n c t), (V.agg [(V.int .i64 sb), (V.int .i64 rb), V.snil, (V.int .i64 tb)])]) := by kernel_rfl
abbrev smy_Ks0 (s r t : Int) (n : Nat) (f : Nat → Bool) (sb rb tb : Int) : List V → List V → Prop := OkL Try.prog 1 52 [2, 3] (takeC 0 (dropC 1 (body Try.f22))) (segQ 52 [] (smy_Ka3 s r t n f sb rb tb) (ends Try.prog Try.f22 (fun v _ => okV (V.bool (samO s r t n f sb rb tb 0 (fun _ => false))) v)))
abbrev smy_Ks1 (s r t : Int) (n : Nat) (f : Nat → Bool) (sb rb tb : Int) : List V → List V → Prop := OkL Try.prog 1 52 [2, 3, 5] (dropC 0 (takeC 0 (dropC 1 (body Try.f22)))) (segQ 52 [] (smy_Ka3 s r t n f sb rb tb) (ends Try.prog Try.f22 (fun v _ => okV (V.bool (samO s r t n f sb rb tb 0 (fun _ => false))) v)))
theorem smy_i0 (s r t : Int) (n c xN : Nat) (f : Nat → Bool) (sb rb tb : Int) (hj : samO s r t n f sb rb tb 0 (fun _ => false) = true) (hn : n = 0) : (smy_Ks0 s r t n f sb rb tb) [(vP 1), (vP 2)] [(V.tup [(V.bools xN f)]), (rf s r 0 n c t), (V.agg [(V.int .i64 sb), (V.int .i64 rb), V.snil, (V.int .i64 tb)])] := by
  exact okl_seg hM orc0_ok nG_ok (N := 1200) 0 (by kernel_rfl) (show dropC 0 (takeC 0 (dropC 1 (body Try.f22))) = (dropC 0 (takeC 0 (dropC 1 (body Try.f22)))) by kernel_rfl) (fun T => Eq.mpr (smy_i0_s s r t n c xN f sb rb tb T (smy_Ks1 s r t n f sb rb tb) (smy_Ka3 s r t n f sb rb tb)) (okl_blk (id := 0) (d := (blkC (dropC 0 (takeC 0 (dropC 1 (body Try.f22)))))) (by kernel_rfl) (okl_loop (0 + 1) (by kernel_rfl) (smy_h 0 s r t n c xN f sb rb tb hj hn))))
theorem smy_s_s (s r t : Int) (n c xN : Nat) (f : Nat → Bool) (sb rb tb : Int) (T : List V) (kk : List V → List V → Prop) : awq Try.prog orc0 nG 1 1200 (takeC 1 (body Try.f22)) (segQ 52 [2, 3] kk (ends Try.prog Try.f22 (fun v _ => okV (V.bool (samO s r t n f sb rb tb 0 (fun _ => false))) v))) ⟨ovr 52 [0, 1] [(rf s r 0 n c t), (V.agg [(V.int .i64 sb), (V.int .i64 rb), V.snil, (V.int .i64 tb)])] T, [(V.tup [(V.bools xN f)])]⟩ = (mB (s != sb) (okV (V.bool (samO s r t n f sb rb tb 0 (fun _ => false))) (V.bool false)) (mB (r != rb) (okV (V.bool (samO s r t n f sb rb tb 0 (fun _ => false))) (V.bool false)) (mB (t != tb) (okV (V.bool (samO s r t n f sb rb tb 0 (fun _ => false))) (V.bool false)) (mB (((n : Nat) : Int) != 0) (okV (V.bool (samO s r t n f sb rb tb 0 (fun _ => false))) (V.bool false)) (kk [(vP 1), (vP 2)] [(V.tup [(V.bools xN f)]), (rf s r 0 n c t), (V.agg [(V.int .i64 sb), (V.int .i64 rb), V.snil, (V.int .i64 tb)])]))))) := by kernel_rfl
abbrev smy_Ka0 (s r t : Int) (n : Nat) (f : Nat → Bool) (sb rb tb : Int) : List V → List V → Prop := OkL Try.prog 1 52 [0, 1] (body Try.f22) (ends Try.prog Try.f22 (fun v _ => okV (V.bool (samO s r t n f sb rb tb 0 (fun _ => false))) v))
abbrev smy_Ka2 (s r t : Int) (n : Nat) (f : Nat → Bool) (sb rb tb : Int) : List V → List V → Prop := OkL Try.prog 1 52 [2, 3] (dropC 1 (body Try.f22)) (ends Try.prog Try.f22 (fun v _ => okV (V.bool (samO s r t n f sb rb tb 0 (fun _ => false))) v))
theorem smy_all (s r t : Int) (n c xN : Nat) (f : Nat → Bool) (sb rb tb : Int) : (smy_Ka0 s r t n f sb rb tb) [(rf s r 0 n c t), (V.agg [(V.int .i64 sb), (V.int .i64 rb), V.snil, (V.int .i64 tb)])] [(V.tup [(V.bools xN f)])] := by
  exact okl_seg hM orc0_ok nG_ok (N := 1200) 1 (by kernel_rfl) (show dropC 1 (body Try.f22) = (dropC 1 (body Try.f22)) by kernel_rfl) (fun T => Eq.mpr (smy_s_s s r t n c xN f sb rb tb T (smy_Ka2 s r t n f sb rb tb)) (mBt (fun h0 => (okV_bool (sam_no (fun e => by have := h0; simp at this; omega)).symm)) (fun h0 => (mBt (fun h1 => (okV_bool (sam_no (fun e => by have := h1; simp at this; omega)).symm)) (fun h1 => (mBt (fun h2 => (okV_bool (sam_no (fun e => by have := h2; simp at this; omega)).symm)) (fun h2 => (mBt (fun h3 => (okV_bool (sam_no (fun e => by have := h3; simp at this; omega)).symm)) (fun h3 => (okl_fst (by kernel_rfl) rfl (by kernel_rfl) (smy_i0 s r t n c xN f sb rb tb (sam_yes (by simpa using h0) (by simpa using h1) (by simpa using h2) (by have := h3; simp at this; omega) (fun j hj => by have := h3; simp at this; omega)) (by have := h3; simp at this; omega))))))))))))
noncomputable def g22n : List V → List V → Option (Bool × V) := fun vs m => match views [] vs m with
  | some ([.agg [.int .i64 s, .int .i64 r, .sl 0 0 n c, .int .i64 t], .agg [.int .i64 sb, .int .i64 rb, .sl 1 0 n2 c2, .int .i64 tb]], [.tup [.bools xN f], .tup [.bools yN f2]]) => some ((Nat.ble n xN && Nat.ble n2 yN) && Nat.ble n 1100, .bool (samO s r t n f sb rb tb n2 f2))
  | some ([.agg [.int .i64 s, .int .i64 r, .snil, .int .i64 t], .agg [.int .i64 sb, .int .i64 rb, .snil, .int .i64 tb]], []) => some (true, .bool (samO s r t 0 (fun _ => false) sb rb tb 0 (fun _ => false)))
  | some ([.agg [.int .i64 s, .int .i64 r, .sl 0 0 n c, .int .i64 t], .agg [.int .i64 sb, .int .i64 rb, .snil, .int .i64 tb]], [.tup [.bools xN f]]) => some (Nat.ble n xN, .bool (samO s r t n f sb rb tb 0 (fun _ => false)))
  | _ => none
theorem g22n_ok (vs m : List V) (v : V) (h : g22n vs m = some (true, v)) : v.flat = true ∧ ∀ μ B w0 w, Under B w0 → Rel μ B w0 m w → PureAt Try.prog 22 (vs.map (V.den μ)).toArray (v.den μ) w := by
  unfold g22n at h
  split at h
  · rename_i s r n c t sb rb n2 c2 tb xN f yN f2 hv
    simp only [Option.some.injEq, Prod.mk.injEq, Bool.and_eq_true] at h
    obtain ⟨⟨⟨h1, h2⟩, h3⟩, rfl⟩ := h
    refine ⟨rfl, ?_⟩
    exact reads_awq (fn := Try.f22) (N := 1200) (n := 50) hM orc0_ok (noG_ok _) Try.func22 (by kernel_rfl) (by kernel_rfl) hv rfl (sam_all (bleT.1 h1) (bleT.1 h2) (bleT.1 h3)) (by kernel_rfl) (by kernel_rfl)
  · rename_i s r t sb rb tb hv
    simp only [Option.some.injEq, Prod.mk.injEq, true_and] at h
    subst h
    refine ⟨rfl, ?_⟩
    exact reads_okl Try.func22 (by kernel_rfl) (by kernel_rfl) hv rfl (smz_all s r t sb rb tb) (Nat.le_of_ble_eq_true (by kernel_rfl)) (by kernel_rfl) rfl
  · rename_i s r n c t sb rb tb xN f hv
    simp only [Option.some.injEq, Prod.mk.injEq] at h
    obtain ⟨hg, rfl⟩ := h
    refine ⟨rfl, ?_⟩
    exact reads_okl Try.func22 (by kernel_rfl) (by kernel_rfl) hv rfl (smy_all s r t n c xN f sb rb tb) (Nat.le_of_ble_eq_true (by kernel_rfl)) (by kernel_rfl) rfl
  · cases h
theorem g22n_grow (vs m : List V) (z : V) (r : Bool × V) (h : g22n vs m = some r) : g22n vs (m ++ [z]) = some r := by
  unfold g22n at h ⊢
  cases hv : views [] vs m with
  | none => rw [hv] at h; cases h
  | some p => rw [hv] at h; rw [views_grow hv]; exact h
noncomputable def g17 : List V → List V → Option (Bool × V) := fun vs m => match views [] vs m with
  | some ([.agg [.int .i64 s, .int .i64 r, .sl 0 0 n c, .int .i64 t]], [.tup [.bools xN f]]) => some (Nat.ble n xN && Nat.ble n 1000, .bool true)
  | some ([.agg [.int .i64 s, .int .i64 r, .snil, .int .i64 t]], []) => some (true, .bool true)
  | _ => none
theorem g17_ok (vs m : List V) (v : V) (h : g17 vs m = some (true, v)) : v.flat = true ∧ ∀ μ B w0 w, Under B w0 → Rel μ B w0 m w → PureAt Try.prog 17 (vs.map (V.den μ)).toArray (v.den μ) w := by
  unfold g17 at h
  split at h
  · rename_i s r n c t xN f hv
    simp only [Option.some.injEq, Prod.mk.injEq, Bool.and_eq_true] at h
    obtain ⟨⟨h1, h2⟩, rfl⟩ := h
    refine ⟨rfl, ?_⟩
    exact reads_okl Try.func17 (by kernel_rfl) (by kernel_rfl) hv rfl (tos_all s r t n c xN f (bleT.1 h1) (bleT.1 h2)) (Nat.le_of_ble_eq_true (by kernel_rfl)) (by kernel_rfl) rfl
  · rename_i s r t hv
    simp only [Option.some.injEq, Prod.mk.injEq, true_and] at h
    subst h
    refine ⟨rfl, ?_⟩
    exact reads_okl Try.func17 (by kernel_rfl) (by kernel_rfl) hv rfl (ton_all s r t) (Nat.le_of_ble_eq_true (by kernel_rfl)) (by kernel_rfl) rfl
  · cases h
theorem g17_grow (vs m : List V) (z : V) (r : Bool × V) (h : g17 vs m = some r) : g17 vs (m ++ [z]) = some r := by
  unfold g17 at h ⊢
  cases hv : views [] vs m with
  | none => rw [hv] at h; cases h
  | some p => rw [hv] at h; rw [views_grow hv]; exact h
noncomputable def f22n : Orc := extM 22 g22n f25
theorem f22n_ok : OrcOK Try.prog f22n := extM_ok f25_ok g22n_ok g22n_grow
noncomputable def f16 : Orc := extM 16 g16 f22n
theorem f16_ok : OrcOK Try.prog f16 := extM_ok f22n_ok g16_ok g16_grow
noncomputable def fA : Orc := extM 17 g17 f16
theorem fA_ok : OrcOK Try.prog fA := extM_ok f16_ok g17_ok g17_grow
theorem jo_eq {s r sb rb : Int} {n n2 : Nat} (h : joO s r n sb rb n2 = false) : s = sb ∧ r = rb ∧ n = n2 := by
  rw [joO_eq] at h; simp at h; exact h
theorem ad_congr {n : Nat} {ga f fw : Nat → Bool} {gt : Int} (hg : ∀ j, j < n → ga j = f j) (hw : ∀ j, j < n → fw j = adF f gt j) (h1 : 1 ≤ gt) (h2 : gt ≤ n) : ∀ j, j < n → up (0 + (Int.toNat (gt - 1) * 1)) true (spl 0 (Nat.min n n * 1) n (sh 0 ga) (fun _ => false)) j = fw j := fun j hj => by
  rw [hw j hj]
  unfold adF
  by_cases e : j = 0 + (Int.toNat (gt - 1) * 1)
  · rw [← e, up_same, decide_eq_true (by omega), Bool.or_true]
  · rw [up_ne _ _ e, own_at (mn_eq n) hj, hg j hj, decide_eq_false (by omega), Bool.or_false]
end Go.Proofs.Ytomipglebaaagaa
