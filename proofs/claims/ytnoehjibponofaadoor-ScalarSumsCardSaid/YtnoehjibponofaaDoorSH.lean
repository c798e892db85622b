/-
  The document's Mod and Tell: contracts. Conditions: none.
-/
import Derived.Test.YtnoehjibponofaaDoorSG
namespace Go.Proofs.YtnoehjibponofaaDoor
open Go.Ev Go.Num
def byB : Nat → (Nat → Int) → Bool
  | 0, _ => true
  | n + 1, f => byB n f && decide (0 ≤ f n ∧ f n < 256)
theorem byB_at {f : Nat → Int} : ∀ {n : Nat}, byB n f = true → By n f
  | 0, _ => fun j hj => by omega
  | n + 1, h => by
    simp only [byB, Bool.and_eq_true, decide_eq_true_eq] at h
    intro j hj
    by_cases e : j = n
    · subst e; exact h.2
    · exact byB_at h.1 j (by omega)
theorem byB_mk {f : Nat → Int} : ∀ {n : Nat}, By n f → byB n f = true
  | 0, _ => rfl
  | n + 1, h => by
    simp only [byB, Bool.and_eq_true, decide_eq_true_eq]
    exact ⟨byB_mk fun j hj => h j (by omega), h n (by omega)⟩
noncomputable def byO : Nat → (Nat → Int) → Bool := Classical.choose (hide_ex byB)
theorem byO_eq : byO = byB := Classical.choose_spec (hide_ex byB)
theorem byO_at {n : Nat} {f : Nat → Int} (h : byO n f = true) : By n f := by rw [byO_eq] at h; exact byB_at h
theorem byO_mk {n : Nat} {f : Nat → Int} (h : By n f) : byO n f = true := by rw [byO_eq]; exact byB_mk h
noncomputable def modO : Nat → (Nat → Int) → Nat → Int := Classical.choose (hide_ex fun x f => stF (dv 256 x f % LL))
theorem modO_eq : modO = fun x f => stF (dv 256 x f % LL) := Classical.choose_spec (hide_ex fun x f => stF (dv 256 x f % LL))
noncomputable def modD (x : Nat) (xf : Nat → Int) : Made := ⟨.i64, 33, modO x xf, fun id cap => .sl id 0 33 cap⟩
theorem mod_has {x : Nat} {xf h : Nat → Int} (hh : By 33 h) (hv : dv 256 33 h = dv 256 x xf % LL) : ∀ j, j < 33 → h j = modO x xf j := by
  have hm := mod_nn (dv 256 x xf)
  rw [modO_eq]
  refine dv_inj (B := 256) (by omega) hh (fun i _ => by_stF _ 33 i (by omega)) ?_
  rw [hv]
  have := dv_digits (B := 256) (by omega) (n := 33) (N := dv 256 x xf % LL)
  have h2 : dv 256 x xf % LL % 256 ^ 33 = dv 256 x xf % LL := Int.emod_eq_of_lt hm.1 (by have := hm.2; unfold LL at *; omega)
  rw [h2] at this
  exact this.symm
theorem mod_l (xN x xc : Nat) (xf : Nat → Int) (hx : x ≤ xN) (hb : By x xf) (h9 : x ≤ 74) : ∀ (k m e : Nat) (hh : Nat → Int), k ≤ 8 * x → k + 1 ≤ m → By 33 hh → dv 256 33 hh = dv 256 x xf / 2 ^ k % LL → ∀ (t6 t7 t8 t10 t15 t16 t17 t18 t19 t20 t21 t22 t23 t24 t25 t26 t27 t28 t29 t30 t31 t32 t33 t34 t35 t36 t37 t38 t39 t40 t41 t42 t43 t44 t45 t46 : V),
    (lpW 1 (awp Tryd.prog o64 GM 600 (loopOf (body Tryd.f42)))) ((spineW Tryd.prog o64 GM 1 600 (body Tryd.f42) (ends Tryd.prog Tryd.f42 fun v m => madeK (modD x xf) v m))) m ⟨[(V.sl 0 0 x xc), V.un, V.snil, (V.sl 1 0 32 32), (V.sl 2 0 33 (e + 33)), (V.int .i64 ((k : Int) - 1)), t6, t7, t8, (V.sl 1 0 32 32), t10, (V.sl 0 0 x xc), (V.int .i64 ((x : Nat) : Int)), (V.int .i64 (mulI .i64 8 ((x : Nat) : Int))), (V.int .i64 (subI .i64 (mulI .i64 8 ((x : Nat) : Int)) 1)), t15, t16, t17, t18, t19, t20, t21, t22, t23, t24, t25, t26, t27, t28, t29, t30, t31, t32, t33, t34, t35, t36, t37, t38, t39, t40, t41, t42, t43, t44, t45, t46, V.un], [(V.tup [(V.ints .i64 xN xf)]), (V.ints .i64 32 ordN), (V.ints .i64 (e + 33) hh)]⟩
  | 0, m, e, hh, _, hm, hB, hv, t6, t7, t8, t10, t15, t16, t17, t18, t19, t20, t21, t22, t23, t24, t25, t26, t27, t28, t29, t30, t31, t32, t33, t34, t35, t36, t37, t38, t39, t40, t41, t42, t43, t44, t45, t46 => by
    obtain ⟨m, rfl⟩ : ∃ z, m = z + 1 := ⟨m - 1, by omega⟩
    refine mod_b _ _ _ _ _ _ _ _ _ _ _ _ _ _ _ _ _ _ _ _ _ _ _ _ _ _ _ _ _ _ _ _ _ _ _ _ _ _ _ _ _ _ _ _ _ ?_
    refine mBt (fun h => absurd (of_decide_eq_true h) (by omega)) (fun _ => ?_)
    rw [mod_bx]
    refine ⟨2, e + 33, hh, fun μ => rfl, rfl, by show 33 ≤ e + 33; omega, mod_has hB ?_⟩
    rw [hv, Int.pow_zero, Int.ediv_one]
  | k + 1, m, e, hh, hk, hm, hB, hv, t6, t7, t8, t10, t15, t16, t17, t18, t19, t20, t21, t22, t23, t24, t25, t26, t27, t28, t29, t30, t31, t32, t33, t34, t35, t36, t37, t38, t39, t40, t41, t42, t43, t44, t45, t46 => by
    obtain ⟨m, rfl⟩ : ∃ z, m = z + 1 := ⟨m - 1, by omega⟩
    refine mod_b _ _ _ _ _ _ _ _ _ _ _ _ _ _ _ _ _ _ _ _ _ _ _ _ _ _ _ _ _ _ _ _ _ _ _ _ _ _ _ _ _ _ _ _ _ ?_
    have e1 : (((k + 1 : Nat) : Int) - 1) = (k : Int) := by omega
    have hnx : subI .i64 (k : Int) 1 = (k : Int) - 1 := sub1_nat k (by omega)
    have hq := bit_v (i := k) hb (by omega) (by omega)
    rw [e1, hnx, hq]
    have hm2 := mod_nn (dv 256 x xf / 2 ^ (k + 1))
    obtain ⟨r1, r2, r3, r4⟩ := mod_round (q := dv 256 x xf / 2 ^ k % 2) (by omega) hB hv hm2.2
    rw [mod_next] at r3 r4
    refine mBt (fun _ => gm ?_ (mBt (fun hd e1 ff2 u6 u7 u8 u10 u15 u16 u17 u18 u19 u20 u21 u22 u23 u24 u25 u26 u27 u28 u29 u30 u31 u32 u33 u34 u35 u36 u37 u38 u39 u40 u41 u42 u43 u44 u45 u46 => ?_) (fun hd u6 u7 u8 u10 u15 u16 u17 u18 u19 u20 u21 u22 u23 u24 u25 u26 u27 u28 u29 u30 u31 u32 u33 u34 u35 u36 u37 u38 u39 u40 u41 u42 u43 u44 u45 u46 => ?_))) (fun h => absurd (of_decide_eq_false h) (by omega))
    · rw [bleT.2 (show x ≤ xN - 0 by omega), decide_eq_true (show (0 : Int) ≤ (k : Int) by omega), decide_eq_true (show (k : Int) < 2147483648 by omega)]; rfl
    · obtain ⟨s1, s2⟩ := r3 hd ff2
      exact mod_l xN x xc xf hx hb h9 k m e1 _ (by omega) (by omega) s1 s2 _ _ _ _ _ _ _ _ _ _ _ _ _ _ _ _ _ _ _ _ _ _ _ _ _ _ _ _ _ _ _ _ _ _ _ _
    · exact mod_l xN x xc xf hx hb h9 k m e _ (by omega) (by omega) r1 (by rw [r2, ← r4 hd]) _ _ _ _ _ _ _ _ _ _ _ _ _ _ _ _ _ _ _ _ _ _ _ _ _ _ _ _ _ _ _ _ _ _ _ _
theorem mod_all {xN x xc : Nat} {xf : Nat → Int} (h0 : 1 ≤ x) (hx : x ≤ xN) (hb : byO x xf = true) (h9 : x ≤ 74) : awq Tryd.prog o64 GM 1 600 (body Tryd.f42) (ends Tryd.prog Tryd.f42 fun v m => madeK (modD x xf) v m) ⟨[(V.sl 0 0 x xc)] ++ List.replicate 47 V.un, [(V.tup [(V.ints .i64 xN xf)])]⟩ := by
  rw [mod_h]
  have hb := byO_at hb
  have hbd := dv_bound (B := 256) (by omega) hb
  have e1 : subI .i64 (mulI .i64 8 ((x : Nat) : Int)) 1 = ((8 * x : Nat) : Int) - 1 := by
    have : mulI .i64 8 (x : Int) = ((8 * x : Nat) : Int) := by unfold mulI; rw [wrap_i64 _ (by omega)]; omega
    rw [this, sub1_nat _ (by omega)]
  have hv : dv 256 33 (fun _ => 0) = dv 256 x xf / 2 ^ (8 * x) % LL := by
    rw [pw_eq] at hbd
    rw [dv_zero, Int.ediv_eq_zero_of_lt hbd.1 (by rw [Int.pow_mul]; exact hbd.2)]
    rfl
  have h := mod_l xN x xc xf hx hb h9 (8 * x) 600 0 (fun _ => 0) (Nat.le_refl _) (by omega) (by_zero 33) hv V.un V.un V.un (V.sl 2 0 33 33) V.un V.un V.un V.un V.un V.un V.un V.un V.un V.un V.un V.un V.un V.un V.un V.un V.un V.un V.un V.un V.un V.un V.un V.un V.un V.un V.un V.un V.un V.un V.un V.un
  rw [← e1] at h
  exact h
noncomputable def g42 : List V → List V → Option (Bool × Made) := fun vs m => match views [] vs m with
  | some ([.sl 0 0 x xc], [.tup [.ints .i64 xN xf]]) => some (Nat.ble 1 x && Nat.ble x xN && Nat.ble x 74 && byO x xf, modD x xf)
  | _ => none
noncomputable def exG42 (G : GOrc) : GOrc := mkG 42 g42 G
theorem G42_ok {G : GOrc} (hG : GOrcOK Tryd.prog G) : GOrcOK Tryd.prog (exG42 G) := by
  refine mkG_ok hG fun vs m d h K hK => ?_
  unfold g42 at h
  split at h
  · rename_i x xc xN xf hv
    simp only [Option.some.injEq, Prod.mk.injEq, Bool.and_eq_true] at h
    obtain ⟨⟨⟨⟨h1, h2⟩, h4⟩, h3⟩, rfl⟩ := h
    exact makes_awq (fn := Tryd.f42) (N := 600) (n := 47) hM o64_ok GM_ok Tryd.func42 (by kernel_rfl) (by kernel_rfl) hv (fun μ μ' i i' cap hi => by simp [modD, V.den, hi]) (fun ρ i cap => by simp [modD, V.ren]) (mod_all (bleT.1 h1) (bleT.1 h2) h3 (bleT.1 h4)) (by kernel_rfl) (by kernel_rfl) hK
  · cases h
def tlF (x : Nat) (xf : Nat → Int) : Nat → (Nat → Int)
  | 0 => fun _ => 0
  | k + 1 => up k (IntKind.wrap .u8 (atF x xf (k : Int))) (tlF x xf k)
theorem tell_t (xN x xc : Nat) (xf : Nat → Int) (r : V) : awp Tryd.prog o64 noG 300 (body Tryd.f41) (ends Tryd.prog Tryd.f41 fun v _ => okV r v) ⟨[V.sl 0 0 x xc] ++ List.replicate 15 V.un, [V.tup [V.ints .i64 xN xf]]⟩ = (gB (Nat.ble x (xN - 0) && decide ((0 : Int) ≤ 0)) (gB (Nat.ble x (xN - 0) && decide ((0 : Int) ≤ 1)) (gB (Nat.ble x (xN - 0) && decide ((0 : Int) ≤ 2)) (gB (Nat.ble x (xN - 0) && decide ((0 : Int) ≤ 3)) (gB (Nat.ble x (xN - 0) && decide ((0 : Int) ≤ 4)) (gB (Nat.ble x (xN - 0) && decide ((0 : Int) ≤ 5)) (gB (Nat.ble x (xN - 0) && decide ((0 : Int) ≤ 6)) (gB (Nat.ble x (xN - 0) && decide ((0 : Int) ≤ 7)) (gB (Nat.ble x (xN - 0) && decide ((0 : Int) ≤ 8)) (gB (Nat.ble x (xN - 0) && decide ((0 : Int) ≤ 9)) (gB (Nat.ble x (xN - 0) && decide ((0 : Int) ≤ 10)) (gB (Nat.ble x (xN - 0) && decide ((0 : Int) ≤ 11)) (gB (Nat.ble x (xN - 0) && decide ((0 : Int) ≤ 12)) (gB (Nat.ble x (xN - 0) && decide ((0 : Int) ≤ 13)) (gB (Nat.ble x (xN - 0) && decide ((0 : Int) ≤ 14)) (gB (Nat.ble x (xN - 0) && decide ((0 : Int) ≤ 15)) (gB (Nat.ble x (xN - 0) && decide ((0 : Int) ≤ 16)) (gB (Nat.ble x (xN - 0) && decide ((0 : Int) ≤ 17)) (gB (Nat.ble x (xN - 0) && decide ((0 : Int) ≤ 18)) (gB (Nat.ble x (xN - 0) && decide ((0 : Int) ≤ 19)) (gB (Nat.ble x (xN - 0) && decide ((0 : Int) ≤ 20)) (gB (Nat.ble x (xN - 0) && decide ((0 : Int) ≤ 21)) (gB (Nat.ble x (xN - 0) && decide ((0 : Int) ≤ 22)) (gB (Nat.ble x (xN - 0) && decide ((0 : Int) ≤ 23)) (gB (Nat.ble x (xN - 0) && decide ((0 : Int) ≤ 24)) (gB (Nat.ble x (xN - 0) && decide ((0 : Int) ≤ 25)) (gB (Nat.ble x (xN - 0) && decide ((0 : Int) ≤ 26)) (gB (Nat.ble x (xN - 0) && decide ((0 : Int) ≤ 27)) (gB (Nat.ble x (xN - 0) && decide ((0 : Int) ≤ 28)) (gB (Nat.ble x (xN - 0) && decide ((0 : Int) ≤ 29)) (gB (Nat.ble x (xN - 0) && decide ((0 : Int) ≤ 30)) (gB (Nat.ble x (xN - 0) && decide ((0 : Int) ≤ 31)) (okV r (V.ints .u8 32 (tlF x xf 32))))))))))))))))))))))))))))))))))) := by kernel_rfl
theorem tl_at (x : Nat) (xf : Nat → Int) : ∀ k j, j < k → tlF x xf k j = atN x xf j % 256
  | 0, j, hj => by omega
  | k + 1, j, hj => by
    rw [tlF, up_at]
    split
    · rename_i h; subst h; rw [wrap_u8]; rfl
    · exact tl_at x xf k j (by omega)
noncomputable def tellO : Nat → (Nat → Int) → Nat → Int := Classical.choose (hide_ex fun x f j => atN x f j % 256)
theorem tellO_eq : tellO = fun x f j => atN x f j % 256 := Classical.choose_spec (hide_ex fun x f j => atN x f j % 256)
theorem tell_a {xN x xc : Nat} {xf : Nat → Int} (hx : x ≤ xN) : awp Tryd.prog o64 noG 300 (body Tryd.f41) (ends Tryd.prog Tryd.f41 fun v _ => okV (V.ints .u8 32 (tellO x xf)) v) ⟨[V.sl 0 0 x xc] ++ List.replicate 15 V.un, [V.tup [V.ints .i64 xN xf]]⟩ := by
  rw [tell_t]
  have g : ∀ n : Int, 0 ≤ n → (Nat.ble x (xN - 0) && decide ((0 : Int) ≤ n)) = true := fun n hn => by rw [bleT.2 (show x ≤ xN - 0 by omega), decide_eq_true hn]; rfl
  iterate 32 refine gm (g _ (by omega)) ?_
  unfold okV
  show (V.ints .u8 32 (tlF x xf 32)).den z0 = (V.ints .u8 32 (tellO x xf)).den z0
  refine ints_eq fun j hj => ?_
  rw [tl_at x xf 32 j hj, tellO_eq]
noncomputable def g41 : List V → List V → Option (Bool × V) := fun vs m => match views [] vs m with
  | some ([.sl 0 0 x xc], [.tup [.ints .i64 xN xf]]) => some (Nat.ble x xN, .ints .u8 32 (tellO x xf))
  | _ => none
theorem g41_ok (vs m : List V) (v : V) (h : g41 vs m = some (true, v)) : v.flat = true ∧ ∀ μ B w0 w, Under B w0 → Rel μ B w0 m w → PureAt Tryd.prog 41 (vs.map (V.den μ)).toArray (v.den μ) w := by
  unfold g41 at h
  split at h
  · rename_i x xc xN xf hv
    simp only [Option.some.injEq, Prod.mk.injEq, Bool.and_eq_true] at h
    obtain ⟨h1, rfl⟩ := h
    refine ⟨rfl, ?_⟩
    exact reads_ok (fn := Tryd.f41) (N := 300) (n := 15) hM o64_ok (noG_ok _) Tryd.func41 (by kernel_rfl) (by kernel_rfl) hv rfl (tell_a (bleT.1 h1)) (by kernel_rfl)
  · cases h
theorem g41_grow (vs m : List V) (z : V) (r : Bool × V) (h : g41 vs m = some r) : g41 vs (m ++ [z]) = some r := by
  unfold g41 at h ⊢
  cases hv : views [] vs m with
  | none => rw [hv] at h; cases h
  | some p => rw [hv] at h; rw [views_grow hv]; exact h
noncomputable def o41 : Orc := extM 41 g41 o64
theorem o41_ok : OrcOK Tryd.prog o41 := extM_ok o64_ok g41_ok g41_grow
end Go.Proofs.YtnoehjibponofaaDoor
