/-
  The document's exported functions: contracts. Conditions: none.
-/
import Derived.Test.YtnoehjibponofaaDoorSH
namespace Go.Proofs.YtnoehjibponofaaDoor
open Go.Ev Go.Num
/-- n digits that make v. -/
def Nm (n : Nat) (f : Nat → Int) (v : Int) : Prop := By n f ∧ dv 256 n f = v
theorem nm_of {n : Nat} {a : Nat → Int} (h : Nat → Int) (ha : By n a) : Nm n (apx n (fun j => IntKind.wrap .i64 (a j)) h) (dv 256 n a) := by
  have e : ∀ j, j < n → apx n (fun j => IntKind.wrap .i64 (a j)) h j = a j := fun j hj => by
    have := ha j hj
    rw [apx_at, if_pos hj, wrap_i64 _ (by omega)]
  exact ⟨fun j hj => by rw [e j hj]; exact ha j hj, dv_congr e⟩
theorem nm_apx {n : Nat} {f : Nat → Int} {v : Int} (h : Nat → Int) (hf : Nm n f v) : Nm n (apx n f h) v := by
  have e : ∀ j, j < n → apx n f h j = f j := fun j hj => by rw [apx_at, if_pos hj]
  exact ⟨fun j hj => by rw [e j hj]; exact hf.1 j hj, (dv_congr e).trans hf.2⟩
theorem nm_sum {x y n : Nat} {f g : Nat → Int} {u v : Int} (h : Nat → Int) (hf : Nm x f u) (hg : Nm y g v) (hn : n = max x y + 1) : Nm n (apx n (sumV x f y g) h) (u + v) := by
  subst hn
  obtain ⟨h1, h2⟩ := sum_num hf.1 hg.1
  exact nm_apx h ⟨h1, by rw [h2, hf.2, hg.2]⟩
theorem nm_mns {x y : Nat} {f g : Nat → Int} {u v : Int} (h : Nat → Int) (hf : Nm x f u) (hg : Nm y g v) (hxy : y ≤ x) (hv : v ≤ u) : Nm x (apx x (mnsV f y g) h) (u - v) := by
  obtain ⟨h1, h2⟩ := mns_num hf.1 hg.1 hxy (by rw [hf.2, hg.2]; exact hv)
  exact nm_apx h ⟨h1, by rw [h2, hf.2, hg.2]⟩
theorem nm_ge {n : Nat} {f : Nat → Int} {v : Int} (h : Nm n f v) : 0 ≤ v := by rw [← h.2]; exact (dv_bound (B := 256) (by omega) h.1).1
theorem st_33 {v : Int} (h0 : 0 ≤ v) (h1 : v < LL) : Nm 33 (stF v) v := by
  refine ⟨by_stF _ 33, ?_⟩
  have := dv_digits (B := 256) (by omega) (n := 33) (N := v)
  rw [show v % 256 ^ 33 = v from Int.emod_eq_of_lt h0 (by unfold LL at h1; omega)] at this
  exact this
theorem nm_mod {x : Nat} {f : Nat → Int} {u : Int} (h : Nat → Int) (hf : Nm x f u) : Nm 33 (apx 33 (modO x f) h) (u % LL) := by
  have hm := mod_nn u
  refine nm_apx h ?_
  rw [modO_eq]
  dsimp only
  rw [hf.2]
  exact st_33 hm.1 hm.2
theorem nm_cut {f : Nat → Int} {v : Int} (hf : Nm 33 f v) (hv : v < LL) : Nm 32 f v := by
  have e := hf.2
  rw [dv_top] at e
  have h32 := hf.1 32 (by omega)
  have hb := dv_bound (B := 256) (by omega) (n := 32) (a := f) fun i hi => hf.1 i (by omega)
  have hp : pw 256 32 = 115792089237316195423570985008687907853269984665640564039457584007913129639936 := by decide
  rw [hp] at e hb
  refine ⟨fun j hj => hf.1 j (by omega), ?_⟩
  unfold LL at hv
  omega
theorem nm_tell {f : Nat → Int} {v : Int} (hf : Nm 33 f v) (hv : v < LL) : (V.ints .u8 32 (tellO 33 f)).den z0 = (V.ints .u8 32 (stF v)).den z0 := by
  refine ints_eq fun j hj => ?_
  rw [tellO_eq]
  dsimp only
  rw [atN_lt (by omega)]
  have h := hf.1 j (by omega)
  have e := dv_inj (B := 256) (by omega) hf.1 (st_33 (nm_ge hf) hv).1 (by rw [hf.2, (st_33 (nm_ge hf) hv).2]) j (by omega)
  rw [e]
  have := by_stF v 33 j (by omega)
  exact Int.emod_eq_of_lt this.1 this.2
theorem nm_less {x y : Nat} {f g : Nat → Int} {u v : Int} (hf : Nm x f u) (hg : Nm y g v) : lessD x f y g (max x y) = decide (u < v) := by
  rw [lessD_v hf.1 hg.1, hf.2, hg.2]
theorem nm_ord : Nm 32 ordN LL := ⟨ordN_by, ordN_v⟩
theorem okV_ints {k : IntKind} {n : Nat} {f g : Nat → Int} (h : (V.ints k n g).den z0 = (V.ints k n f).den z0) : okV (V.ints k n f) (V.ints k n g) := h
theorem okV_bool {a b : Bool} (h : b = a) : okV (V.bool a) (V.bool b) := by rw [h]; exact okV_refl rfl
noncomputable def GD : GOrc := exG42 (exG37 (exG36 (exG53 (inl Tryd.prog o41 300 46 Tryd.f46 noG))))
theorem GD_ok : GOrcOK Tryd.prog GD := G42_ok (G37_ok (G36_ok (G53_ok (inl_ok hM o41_ok (noG_ok _) Tryd.func46 (by kernel_rfl) (by kernel_rfl)))))
theorem and_l {a b : Bool} (h : (a && b) = true) : a = true := by cases a <;> simp_all
theorem and_r {a b : Bool} (h : (a && b) = true) : b = true := by cases a <;> simp_all
theorem cut_g (e : Nat) : (decide ((0 : Int) ≤ 0 ∧ (0 : Int) ≤ 32 ∧ (32 : Int) ≤ (((e + 33) : Nat) : Int)) && (decide ((0 : Int) = 0) || decide ((0 : Int) < (((e + 33) : Nat) : Int)))) = true := by
  rw [decide_eq_true (by omega), decide_eq_true (rfl : (0 : Int) = 0)]; rfl
theorem d20_t (a : Nat → Int) (r : V) : awp Tryd.prog o41 GD 300 (body Tryd.f20) (ends Tryd.prog Tryd.f20 fun v _ => okV r v) ⟨[V.ints .u8 32 a] ++ List.replicate 6 V.un, []⟩ = (∀ (e1 : Nat) (ff2 : Nat → Int), (okV r (V.bool (lessD 32 (apx 32 (fun j => IntKind.wrap .i64 (a j)) ff2) 32 ordN (max 32 32))))) := by kernel_rfl
theorem d20_a {a : Nat → Int} (hg : (byO 32 a) = true) : awp Tryd.prog o41 GD 300 (body Tryd.f20) (ends Tryd.prog Tryd.f20 fun v _ => okV (V.bool (canO a)) v) ⟨[V.ints .u8 32 a] ++ List.replicate 6 V.un, []⟩ := by
  rw [d20_t]
  have ha := byO_at hg
  intro e1 ff2
  refine okV_bool ?_
  rw [nm_less (nm_of ff2 ha) nm_ord, canO_eq]
  dsimp only
  rw [num_bytes ha]
noncomputable def g20 : List V → Option (Bool × V) := fun | [.ints .u8 32 a] => some ((byO 32 a), (V.bool (canO a))) | _ => none
theorem g20_ok (vs : List V) (v : V) (h : g20 vs = some (true, v)) : (∀ μ μ', v.den μ' = v.den μ) ∧ ∀ μ w, PureAt Tryd.prog 20 (vs.map (V.den μ)).toArray (v.den μ) w := by
  unfold g20 at h
  split at h
  · simp only [Option.some.injEq, Prod.mk.injEq] at h
    obtain ⟨h, rfl⟩ := h
    exact pure_ok (F := o41) (N := 300) (fn := Tryd.f20) (args := [_]) (r := _) (n := 6) hM o41_ok GD_ok Tryd.func20 (by kernel_rfl) (by kernel_rfl) (by kernel_rfl) (by kernel_rfl) (d20_a h) (by kernel_rfl)
  · cases h
theorem d18_t (w : Nat → Int) (r : V) : awp Tryd.prog o41 GD 300 (body Tryd.f18) (ends Tryd.prog Tryd.f18 fun v _ => okV r v) ⟨[V.ints .u8 64 w] ++ List.replicate 6 V.un, []⟩ = (∀ (e1 : Nat) (ff2 : Nat → Int), (gB (byO 64 (apx 64 (fun j => IntKind.wrap .i64 (w j)) ff2)) (∀ (e3 : Nat) (ff4 : Nat → Int), (okV r (V.ints .u8 32 (tellO 33 (apx 33 (modO 64 (apx 64 (fun j => IntKind.wrap .i64 (w j)) ff2)) ff4))))))) := by kernel_rfl
theorem d18_a {w : Nat → Int} (hg : (byO 64 w) = true) : awp Tryd.prog o41 GD 300 (body Tryd.f18) (ends Tryd.prog Tryd.f18 fun v _ => okV (V.ints .u8 32 (rdcO w)) v) ⟨[V.ints .u8 64 w] ++ List.replicate 6 V.un, []⟩ := by
  rw [d18_t]
  have hw := byO_at hg
  intro e1 ff2
  have h1 := nm_of ff2 hw
  refine gm (byO_mk h1.1) ?_
  intro e3 ff4
  have h2 := nm_mod ff4 h1
  refine okV_ints ?_
  rw [nm_tell h2 (mod_nn _).2, rdcO_eq]
  dsimp only
  rw [wide_bytes hw]
noncomputable def g18 : List V → Option (Bool × V) := fun | [.ints .u8 64 w] => some ((byO 64 w), (V.ints .u8 32 (rdcO w))) | _ => none
theorem g18_ok (vs : List V) (v : V) (h : g18 vs = some (true, v)) : (∀ μ μ', v.den μ' = v.den μ) ∧ ∀ μ w, PureAt Tryd.prog 18 (vs.map (V.den μ)).toArray (v.den μ) w := by
  unfold g18 at h
  split at h
  · simp only [Option.some.injEq, Prod.mk.injEq] at h
    obtain ⟨h, rfl⟩ := h
    exact pure_ok (F := o41) (N := 300) (fn := Tryd.f18) (args := [_]) (r := _) (n := 6) hM o41_ok GD_ok Tryd.func18 (by kernel_rfl) (by kernel_rfl) (by kernel_rfl) (by kernel_rfl) (d18_a h) (by kernel_rfl)
  · cases h
theorem d26_t (a b : Nat → Int) (r : V) : awp Tryd.prog o41 GD 300 (body Tryd.f26) (ends Tryd.prog Tryd.f26 fun v _ => okV r v) ⟨[V.ints .u8 32 a, V.ints .u8 32 b] ++ List.replicate 10 V.un, []⟩ = (((∀ (e1 : Nat) (ff2 : Nat → Int), (∀ (e3 : Nat) (ff4 : Nat → Int), (∀ (e5 : Nat) (ff6 : Nat → Int), (gB (byO 33 (apx 33 (sumV 32 (apx 32 (fun j => IntKind.wrap .i64 (a j)) ff2) 32 (apx 32 (fun j => IntKind.wrap .i64 (b j)) ff4)) ff6)) (∀ (e7 : Nat) (ff8 : Nat → Int), (okV r (V.ints .u8 32 (tellO 33 (apx 33 (modO 33 (apx 33 (sumV 32 (apx 32 (fun j => IntKind.wrap .i64 (a j)) ff2) 32 (apx 32 (fun j => IntKind.wrap .i64 (b j)) ff4)) ff6)) ff8))))))))) ∧ (∀ (e9 : Nat) (ff10 : Nat → Int), (∀ (e11 : Nat) (ff12 : Nat → Int), (∀ (e13 : Nat) (ff14 : Nat → Int), (gB (byO 33 (apx 33 (sumV 32 (apx 32 (fun j => IntKind.wrap .i64 (a j)) ff10) 32 (apx 32 (fun j => IntKind.wrap .i64 (b j)) ff12)) ff14)) (∀ (e15 : Nat) (ff16 : Nat → Int), (okV r (V.ints .u8 32 (tellO 33 (apx 33 (modO 33 (apx 33 (sumV 32 (apx 32 (fun j => IntKind.wrap .i64 (a j)) ff10) 32 (apx 32 (fun j => IntKind.wrap .i64 (b j)) ff12)) ff14)) ff16)))))))))) ∧ (∀ (e17 : Nat) (ff18 : Nat → Int), (∀ (e19 : Nat) (ff20 : Nat → Int), (∀ (e21 : Nat) (ff22 : Nat → Int), (gB (byO 33 (apx 33 (sumV 32 (apx 32 (fun j => IntKind.wrap .i64 (a j)) ff18) 32 (apx 32 (fun j => IntKind.wrap .i64 (b j)) ff20)) ff22)) (∀ (e23 : Nat) (ff24 : Nat → Int), (okV r (V.ints .u8 32 (tellO 33 (apx 33 (modO 33 (apx 33 (sumV 32 (apx 32 (fun j => IntKind.wrap .i64 (a j)) ff18) 32 (apx 32 (fun j => IntKind.wrap .i64 (b j)) ff20)) ff22)) ff24)))))))))) := by kernel_rfl
theorem d26_a {a b : Nat → Int} (hg : (byO 32 a && byO 32 b) = true) : awp Tryd.prog o41 GD 300 (body Tryd.f26) (ends Tryd.prog Tryd.f26 fun v _ => okV (V.ints .u8 32 (addO a b)) v) ⟨[V.ints .u8 32 a, V.ints .u8 32 b] ++ List.replicate 10 V.un, []⟩ := by
  rw [d26_t]
  have ha := byO_at (and_l hg)
  have hb := byO_at (and_r hg)
  have key : ∀ (f1 f2 f3 : Nat → Int), gB (byO 33 (apx 33 (sumV 32 (apx 32 (fun j => IntKind.wrap .i64 (a j)) f1) 32 (apx 32 (fun j => IntKind.wrap .i64 (b j)) f2)) f3)) (∀ (_ : Nat) (f4 : Nat → Int), okV (V.ints .u8 32 (addO a b)) (V.ints .u8 32 (tellO 33 (apx 33 (modO 33 (apx 33 (sumV 32 (apx 32 (fun j => IntKind.wrap .i64 (a j)) f1) 32 (apx 32 (fun j => IntKind.wrap .i64 (b j)) f2)) f3)) f4)))) := by
    intro f1 f2 f3
    have h1 := nm_of f1 ha
    have h2 := nm_of f2 hb
    have h3 := nm_sum (n := 33) f3 h1 h2 rfl
    refine gm (byO_mk h3.1) ?_
    intro e4 f4
    have h4 := nm_mod f4 h3
    refine okV_ints ?_
    rw [nm_tell h4 (mod_nn _).2, addO_eq]
    dsimp only
    rw [num_bytes ha, num_bytes hb]
  exact ⟨⟨(fun e1 ff2 => (fun e3 ff4 => (fun e5 ff6 => (key ff2 ff4 ff6)))), (fun e9 ff10 => (fun e11 ff12 => (fun e13 ff14 => (key ff10 ff12 ff14))))⟩, (fun e17 ff18 => (fun e19 ff20 => (fun e21 ff22 => (key ff18 ff20 ff22))))⟩
noncomputable def g26 : List V → Option (Bool × V) := fun | [.ints .u8 32 a, .ints .u8 32 b] => some ((byO 32 a && byO 32 b), (V.ints .u8 32 (addO a b))) | _ => none
theorem g26_ok (vs : List V) (v : V) (h : g26 vs = some (true, v)) : (∀ μ μ', v.den μ' = v.den μ) ∧ ∀ μ w, PureAt Tryd.prog 26 (vs.map (V.den μ)).toArray (v.den μ) w := by
  unfold g26 at h
  split at h
  · simp only [Option.some.injEq, Prod.mk.injEq] at h
    obtain ⟨h, rfl⟩ := h
    exact pure_ok (F := o41) (N := 300) (fn := Tryd.f26) (args := [_, _]) (r := _) (n := 10) hM o41_ok GD_ok Tryd.func26 (by kernel_rfl) (by kernel_rfl) (by kernel_rfl) (by kernel_rfl) (d26_a h) (by kernel_rfl)
  · cases h
theorem d30_t (a : Nat → Int) (r : V) : awp Tryd.prog o41 GD 300 (body Tryd.f30) (ends Tryd.prog Tryd.f30 fun v _ => okV r v) ⟨[V.ints .u8 32 a] ++ List.replicate 10 V.un, []⟩ = ((∀ (e1 : Nat) (ff2 : Nat → Int), (gB (byO 32 (apx 32 (fun j => IntKind.wrap .i64 (a j)) ff2)) (∀ (e3 : Nat) (ff4 : Nat → Int), (gB (decide ((0 : Int) ≤ 0 ∧ (0 : Int) ≤ 32 ∧ (32 : Int) ≤ (((e3 + 33) : Nat) : Int)) && (decide ((0 : Int) = 0) || decide ((0 : Int) < (((e3 + 33) : Nat) : Int)))) (∀ (e5 : Nat) (ff6 : Nat → Int), (gB (byO 32 (apx 32 (mnsV ordN 32 (apx 33 (modO 32 (apx 32 (fun j => IntKind.wrap .i64 (a j)) ff2)) ff4)) ff6)) (∀ (e7 : Nat) (ff8 : Nat → Int), (okV r (V.ints .u8 32 (tellO 33 (apx 33 (modO 32 (apx 32 (mnsV ordN 32 (apx 33 (modO 32 (apx 32 (fun j => IntKind.wrap .i64 (a j)) ff2)) ff4)) ff6)) ff8))))))))))) ∧ (∀ (e9 : Nat) (ff10 : Nat → Int), (gB (byO 32 (apx 32 (fun j => IntKind.wrap .i64 (a j)) ff10)) (∀ (e11 : Nat) (ff12 : Nat → Int), (gB (decide ((0 : Int) ≤ 0 ∧ (0 : Int) ≤ 32 ∧ (32 : Int) ≤ (((e11 + 33) : Nat) : Int)) && (decide ((0 : Int) = 0) || decide ((0 : Int) < (((e11 + 33) : Nat) : Int)))) (∀ (e13 : Nat) (ff14 : Nat → Int), (gB (byO 32 (apx 32 (mnsV ordN 32 (apx 33 (modO 32 (apx 32 (fun j => IntKind.wrap .i64 (a j)) ff10)) ff12)) ff14)) (∀ (e15 : Nat) (ff16 : Nat → Int), (okV r (V.ints .u8 32 (tellO 33 (apx 33 (modO 32 (apx 32 (mnsV ordN 32 (apx 33 (modO 32 (apx 32 (fun j => IntKind.wrap .i64 (a j)) ff10)) ff12)) ff14)) ff16)))))))))))) := by kernel_rfl
theorem d30_a {a : Nat → Int} (hg : (byO 32 a) = true) : awp Tryd.prog o41 GD 300 (body Tryd.f30) (ends Tryd.prog Tryd.f30 fun v _ => okV (V.ints .u8 32 (negO a)) v) ⟨[V.ints .u8 32 a] ++ List.replicate 10 V.un, []⟩ := by
  rw [d30_t]
  have ha := byO_at hg
  have key : ∀ (f1 : Nat → Int), gB (byO 32 (apx 32 (fun j => IntKind.wrap .i64 (a j)) f1)) (∀ (e3 : Nat) (ff4 : Nat → Int), (gB (decide ((0 : Int) ≤ 0 ∧ (0 : Int) ≤ 32 ∧ (32 : Int) ≤ (((e3 + 33) : Nat) : Int)) && (decide ((0 : Int) = 0) || decide ((0 : Int) < (((e3 + 33) : Nat) : Int)))) (∀ (_e5 : Nat) (ff6 : Nat → Int), (gB (byO 32 (apx 32 (mnsV ordN 32 (apx 33 (modO 32 (apx 32 (fun j => IntKind.wrap .i64 (a j)) f1)) ff4)) ff6)) (∀ (_e7 : Nat) (ff8 : Nat → Int), okV (V.ints .u8 32 (negO a)) (V.ints .u8 32 (tellO 33 (apx 33 (modO 32 (apx 32 (mnsV ordN 32 (apx 33 (modO 32 (apx 32 (fun j => IntKind.wrap .i64 (a j)) f1)) ff4)) ff6)) ff8)))))))) := by
    intro f1
    have h1 := nm_of f1 ha
    refine gm (byO_mk h1.1) ?_
    intro e3 ff4
    have h2 := nm_mod ff4 h1
    have hm := mod_nn (dv 256 32 a)
    have h2 := nm_cut h2 hm.2
    refine gm (cut_g e3) ?_
    intro e5 ff6
    have h3 := nm_mns ff6 nm_ord h2 (by omega) (by omega)
    refine gm (byO_mk h3.1) ?_
    intro e7 ff8
    have h4 := nm_mod ff8 h3
    refine okV_ints ?_
    rw [nm_tell h4 (mod_nn _).2, negO_eq]
    dsimp only
    have : (LL - dv 256 32 a % LL) % LL = -num a % LL := by rw [num_bytes ha]; unfold LL; omega
    rw [this]
  exact ⟨(fun e1 ff2 => (key ff2)), (fun e9 ff10 => (key ff10))⟩
noncomputable def g30 : List V → Option (Bool × V) := fun | [.ints .u8 32 a] => some ((byO 32 a), (V.ints .u8 32 (negO a))) | _ => none
theorem g30_ok (vs : List V) (v : V) (h : g30 vs = some (true, v)) : (∀ μ μ', v.den μ' = v.den μ) ∧ ∀ μ w, PureAt Tryd.prog 30 (vs.map (V.den μ)).toArray (v.den μ) w := by
  unfold g30 at h
  split at h
  · simp only [Option.some.injEq, Prod.mk.injEq] at h
    obtain ⟨h, rfl⟩ := h
    exact pure_ok (F := o41) (N := 300) (fn := Tryd.f30) (args := [_]) (r := _) (n := 10) hM o41_ok GD_ok Tryd.func30 (by kernel_rfl) (by kernel_rfl) (by kernel_rfl) (by kernel_rfl) (d30_a h) (by kernel_rfl)
  · cases h
end Go.Proofs.YtnoehjibponofaaDoor
