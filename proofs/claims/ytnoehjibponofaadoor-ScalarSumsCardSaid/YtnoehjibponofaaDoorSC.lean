/-
  The document's Less: a contract. Conditions: none.
-/
import Derived.Test.YtnoehjibponofaaDoorSB
namespace Go.Proofs.YtnoehjibponofaaDoor
open Go.Ev
/-- Is one list below the other, from digit k - 1 down? -/
def lessD (x : Nat) (f : Nat → Int) (y : Nat) (g : Nat → Int) : Nat → Bool
  | 0 => false
  | k + 1 => cond (atF x f (k : Int) != atF y g (k : Int)) (decide (atF x f (k : Int) < atF y g (k : Int))) (lessD x f y g k)
theorem less_l (xN x xc yN y yc : Nat) (xf yf : Nat → Int) (hx : x ≤ xN) (hy : y ≤ yN) (K : Nat) : ∀ (k m : Nat), k ≤ 299 → k + 1 ≤ m → lessD x xf y yf K = lessD x xf y yf k → ∀ (t4 t10 t11 t12 t13 t14 t15 t16 t17 t18 t19 t20 t21 t22 t23 t24 t25 t26 t27 : V),
    lp (awp Tryd.prog o58 noG 300 (loopOf (body Tryd.f45))) (spineQ Tryd.prog o58 noG 300 (body Tryd.f45) (ends Tryd.prog Tryd.f45 fun v _ => okV (V.bool (lessD x xf y yf K)) v)) m ⟨[(V.sl 0 0 x xc), (V.sl 1 0 y yc), V.un, V.un, t4, (V.int .i64 ((k : Int) - 1)), (V.sl 0 0 x xc), (V.sl 1 0 y yc), (V.int .i64 ((max x y : Nat) : Int)), (V.int .i64 (subI .i64 ((max x y : Nat) : Int) 1)), t10, t11, t12, t13, t14, t15, t16, t17, t18, t19, t20, t21, t22, t23, t24, t25, t26, t27], [(V.tup [(V.ints .i64 xN xf)]), (V.tup [(V.ints .i64 yN yf)])]⟩
  | 0, m, _, hm, he, t4, t10, t11, t12, t13, t14, t15, t16, t17, t18, t19, t20, t21, t22, t23, t24, t25, t26, t27 => by
    obtain ⟨m, rfl⟩ : ∃ z, m = z + 1 := ⟨m - 1, by omega⟩
    rw [less_s]
    refine mBt (fun h => absurd (of_decide_eq_true h) (by omega)) (fun _ => ?_)
    rw [less_x, he]
    exact okV_refl rfl
  | k + 1, m, hk, hm, he, t4, t10, t11, t12, t13, t14, t15, t16, t17, t18, t19, t20, t21, t22, t23, t24, t25, t26, t27 => by
    obtain ⟨m, rfl⟩ : ∃ z, m = z + 1 := ⟨m - 1, by omega⟩
    have e1 : (((k + 1 : Nat) : Int) - 1) = (k : Int) := by omega
    rw [e1, less_s]
    have gx : (Nat.ble x (xN - 0) && decide (0 ≤ (k : Int))) = true := by rw [bleT.2 (show x ≤ xN - 0 by omega), decide_eq_true (show (0 : Int) ≤ (k : Int) by omega)]; rfl
    have gy : (Nat.ble y (yN - 0) && decide (0 ≤ (k : Int))) = true := by rw [bleT.2 (show y ≤ yN - 0 by omega), decide_eq_true (show (0 : Int) ≤ (k : Int) by omega)]; rfl
    have hnx : (subI .i64 (k : Int) 1) = (k : Int) - 1 := sub1_nat k (by omega)
    refine mBt (fun _ => ?_) (fun h => absurd (of_decide_eq_false h) (by omega))
    refine gm gx (gm gy (mBt (fun hne => gm gx (gm gy ?_)) (fun hne => ?_)))
    · rw [less_xr, he]
      simp only [lessD, hne, cond_true]
      exact okV_refl rfl
    · rw [hnx]
      refine less_l xN x xc yN y yc xf yf hx hy K k m (by omega) (by omega) ?_ _ _ _ _ _ _ _ _ _ _ _ _ _ _ _ _ _ _ _
      rw [he]
      simp only [lessD, hne, cond_false]
theorem less_a {xN x xc yN y yc : Nat} {xf yf : Nat → Int} (hx : x ≤ xN) (hy : y ≤ yN) (hm : max x y ≤ 299) :
    awp Tryd.prog o58 noG 300 (body Tryd.f45) (ends Tryd.prog Tryd.f45 fun v _ => okV (V.bool (lessD x xf y yf (max x y))) v) ⟨[V.sl 0 0 x xc, V.sl 1 0 y yc] ++ List.replicate 26 V.un, [V.tup [V.ints .i64 xN xf], V.tup [V.ints .i64 yN yf]]⟩ := by
  rw [less_h]
  have e : (subI .i64 ((max x y : Nat) : Int) 1) = ((max x y : Nat) : Int) - 1 := sub1_nat _ (by omega)
  have h := less_l xN x xc yN y yc xf yf hx hy (max x y) (max x y) 300 hm (by omega) rfl
  rw [e] at h ⊢
  exact h _ _ _ _ _ _ _ _ _ _ _ _ _ _ _ _ _ _ _
def g45 : List V → List V → Option (Bool × V) := fun vs m => match views [] vs m with
  | some ([.sl 0 0 x _, .sl 1 0 y _], [.tup [.ints .i64 xN xf], .tup [.ints .i64 yN yf]]) => some (Nat.ble x xN && Nat.ble y yN && Nat.ble (max x y) 299, .bool (lessD x xf y yf (max x y)))
  | _ => none
theorem g45_ok (vs m : List V) (v : V) (h : g45 vs m = some (true, v)) : v.flat = true ∧ ∀ μ B w0 w, Under B w0 → Rel μ B w0 m w → PureAt Tryd.prog 45 (vs.map (V.den μ)).toArray (v.den μ) w := by
  unfold g45 at h
  split at h
  · rename_i x xc y yc xN xf yN yf hv
    simp only [Option.some.injEq, Prod.mk.injEq, Bool.and_eq_true] at h
    obtain ⟨⟨⟨h1, h2⟩, h3⟩, rfl⟩ := h
    refine ⟨rfl, ?_⟩
    exact reads_ok (fn := Tryd.f45) (N := 300) (n := 26) hM o58_ok (noG_ok _) Tryd.func45 (by kernel_rfl) (by kernel_rfl) hv rfl (less_a (bleT.1 h1) (bleT.1 h2) (bleT.1 h3)) (by kernel_rfl)
  · cases h
theorem g45_grow (vs m : List V) (z : V) (r : Bool × V) (h : g45 vs m = some r) : g45 vs (m ++ [z]) = some r := by
  unfold g45 at h ⊢
  cases hv : views [] vs m with
  | none => rw [hv] at h; cases h
  | some p => rw [hv] at h; rw [views_grow hv]; exact h
def o45 : Orc := extM 45 g45 o58
theorem o45_ok : OrcOK Tryd.prog o45 := extM_ok o58_ok g45_ok g45_grow
end Go.Proofs.YtnoehjibponofaaDoor
