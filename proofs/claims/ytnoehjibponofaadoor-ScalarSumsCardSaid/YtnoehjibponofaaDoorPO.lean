/-
  1 + 1, 2 - 1, 2 times 2; the ring's law. Conditions: none.
-/
import Derived.Test.YtnoehjibponofaaDoorPM
import Derived.Test.YtnoehjibponofaaDoorPN
namespace Go.Proofs.YtnoehjibponofaaDoor
open Go.Ev
def oneF : Nat → Int := up 0 1 (fun _ => 0)
def twoF : Nat → Int := up 0 2 (fun _ => 0)
theorem eqN_mk {f g : Nat → Int} : ∀ {n : Nat}, (∀ j, j < n → f j = g j) → eqN n f g = true
  | 0, _ => rfl
  | n + 1, h => by
    simp only [eqN, Bool.and_eq_true, beq_iff_eq]
    exact ⟨eqN_mk fun j hj => h j (by omega), h n (by omega)⟩
theorem eqN_refl (n : Nat) (f : Nat → Int) : eqN n f f = true := eqN_mk fun _ _ => rfl
theorem ld_congr {f g : Nat → Int} {a : Nat} : ∀ {k : Nat}, (∀ j, j < a + k → f j = g j) → ldR f a k = ldR g a k
  | 0, _ => rfl
  | k + 1, h => by simp only [ldR]; rw [ld_congr (fun j hj => h j (by omega)), h (a + k) (by omega)]
theorem num_congr {a b : Nat → Int} (h : ∀ j, j < 32 → a j = b j) : num a = num b := by
  unfold num
  rw [loadO_eq]
  refine lvn_congr fun j hj => ?_
  unfold loadF
  exact ld_congr fun i hi => h i (by omega)
theorem num_nat {a : Nat → Int} {v : Int} (h0 : 0 ≤ v) (h1 : v < 115792089237316195423570985008687907853269984665640564039457584007913129639936) (h : ∀ j, j < 32 → a j = stF v j) : num a = v := by
  rw [num_congr h, num_st h0 h1]
theorem st_small {v : Int} (h0 : 0 ≤ v) (h1 : v < 256) : ∀ j, stF v j = up 0 v (fun _ => 0) j := by
  intro j
  rw [up_at]
  unfold stF
  split
  · rename_i h; subst h; rw [Int.pow_zero, Int.ediv_one]; omega
  · rename_i h
    obtain ⟨k, rfl⟩ : ∃ k, j = k + 1 := ⟨j - 1, by omega⟩
    have hp : (0 : Int) < 256 ^ k := Int.pow_pos (by omega)
    have : v < 256 ^ (k + 1) := by rw [Int.pow_succ]; omega
    rw [Int.ediv_eq_zero_of_lt h0 this]; rfl
theorem num_up {v : Int} (h0 : 0 ≤ v) (h1 : v < 256) : num (up 0 v (fun _ => 0)) = v :=
  num_nat h0 (by omega) fun j _ => (st_small h0 h1 j).symm
theorem num_zero : num (fun _ => 0) = 0 := num_nat (by omega) (by omega) fun j _ => by rw [st_small (by omega) (by omega), up_at]; split <;> rfl
theorem num_add (a b : Nat → Int) : num (addO a b) = (num a + num b) % LL := by rw [addO_eq]; exact num_mod _
theorem num_neg (a : Nat → Int) : num (negO a) = -num a % LL := by rw [negO_eq]; exact num_mod _
theorem num_mul (a b : Nat → Int) : num (mulO a b) = num a * num b % LL := by rw [mulO_eq]; exact num_mod _
theorem num_rdc (w : Nat → Int) : num (rdcO w) = lvn 8 (wideO w) % LL := by rw [rdcO_eq]; exact num_mod _
theorem can_iff (a : Nat → Int) : canO a = decide (num a < LL) := by rw [canO_eq]
/-- An answer is the bytes of its number. -/
theorem add_st (a b : Nat → Int) : addO a b = stF (num (addO a b)) := by rw [num_add, addO_eq]
theorem neg_st (a : Nat → Int) : negO a = stF (num (negO a)) := by rw [num_neg, negO_eq]
theorem mul_st (a b : Nat → Int) : mulO a b = stF (num (mulO a b)) := by rw [num_mul, mulO_eq]
theorem rdc_st (w : Nat → Int) : rdcO w = stF (num (rdcO w)) := by rw [num_rdc, rdcO_eq]
theorem ea (a b : Int) : (a % LL + b) % LL = (a + b) % LL := Int.emod_add_emod _ _ _
theorem eb (a b : Int) : (a + b % LL) % LL = (a + b) % LL := by rw [Int.add_comm, ea, Int.add_comm]
theorem ma (a b : Int) : (a % LL * b) % LL = (a * b) % LL := by rw [Int.mul_emod, Int.emod_emod_of_dvd _ (Int.dvd_refl _), ← Int.mul_emod]
theorem mb (a b : Int) : (a * (b % LL)) % LL = (a * b) % LL := by rw [Int.mul_comm, ma, Int.mul_comm]
theorem na (a : Int) : (-(a % LL)) % LL = -a % LL := by
  have e : -a = -(a % LL) + LL * -(a / LL) := by have := Int.mul_ediv_add_emod a LL; rw [Int.mul_neg]; omega
  rw [e, Int.add_mul_emod_self_left]
theorem mm (a : Int) : a % LL % LL = a % LL := Int.emod_emod_of_dvd _ (Int.dvd_refl _)
theorem nn (a : Int) : -(-a % LL) % LL = a % LL := by rw [na, Int.neg_neg]
theorem can_mod {a : Nat → Int} (n : Int) (h : num a = n % LL) : canO a = true := by rw [can_iff, h]; exact decide_eq_true (mod_nn n).2
theorem known_t (o x y : Nat → Int) : awp Tryd.prog p17 noG 300 (body Tryd.f33) (ends Tryd.prog Tryd.f33 fun v _ => okV (V.bool true) v) ⟨[] ++ List.replicate 20 V.un, [(V.tup [V.fn 2, (V.ints .u64 4 o)]), (V.tup [V.fn 0, (V.ints .u8 32 x)]), (V.tup [V.fn 3, (V.ints .u8 32 y)])]⟩ = (gB (eqN 4 o ordF) (mB (eqN 32 (addO x x) y) (gB (eqN 4 o ordF) (mB (eqN 32 (addO y (negO x)) x) (gB (eqN 4 o ordF) ((V.bool (eqN 32 (mulO y y) (up 0 4 (fun _ => 0)))).den z0 = (V.bool true).den z0)) ((V.bool false).den z0 = (V.bool true).den z0))) ((V.bool false).den z0 = (V.bool true).den z0))) := by kernel_rfl
theorem known_vals {x y : Nat → Int} (hx : eqN 32 x oneF = true) (hy : eqN 32 y twoF = true) : eqN 32 (addO x x) y = true ∧ eqN 32 (addO y (negO x)) x = true ∧ eqN 32 (mulO y y) (up 0 4 (fun _ => 0)) = true := by
  have X := eqN_at hx; have Y := eqN_at hy
  have n1 : num x = 1 := by rw [num_congr X]; exact num_up (by omega) (by omega)
  have n2 : num y = 2 := by rw [num_congr Y]; exact num_up (by omega) (by omega)
  refine ⟨eqN_mk fun j hj => ?_, eqN_mk fun j hj => ?_, eqN_mk fun j hj => ?_⟩
  · rw [add_st, num_add, n1, Y j hj, show ((1 : Int) + 1) % LL = 2 by decide]; exact st_small (by omega) (by omega) j
  · rw [add_st, num_add, num_neg, n1, n2, X j hj, show ((2 : Int) + -1 % LL) % LL = 1 by decide]; exact st_small (by omega) (by omega) j
  · rw [mul_st, num_mul, n2, show ((2 : Int) * 2) % LL = 4 by decide]; exact st_small (by omega) (by omega) j
theorem known_a {o x y : Nat → Int} (ho : eqN 4 o ordF = true) (hx : eqN 32 x oneF = true) (hy : eqN 32 y twoF = true) : awp Tryd.prog p17 noG 300 (body Tryd.f33) (ends Tryd.prog Tryd.f33 fun v _ => okV (V.bool true) v) ⟨[] ++ List.replicate 20 V.un, [(V.tup [V.fn 2, (V.ints .u64 4 o)]), (V.tup [V.fn 0, (V.ints .u8 32 x)]), (V.tup [V.fn 3, (V.ints .u8 32 y)])]⟩ := by
  have k := known_vals hx hy
  rw [known_t]
  refine gm ho ?_
  refine mBt (fun h0 => ?_) (fun h0 => ?_)
  · refine gm ho ?_
    refine mBt (fun h1 => ?_) (fun h1 => ?_)
    · refine gm ho ?_
      first | rfl | (rw [k.2.2])
    · rw [k.2.1] at h1; cases h1
  · rw [k.1] at h0; cases h0
noncomputable def g33 : List V → List V → Option (Bool × V) := fun vs m => match views [2, 0, 3] vs m with
  | some ([], [.tup [.fn 2, .ints .u64 4 o], .tup [.fn 0, .ints .u8 32 x], .tup [.fn 3, .ints .u8 32 y]]) => some (eqN 4 o ordF && (eqN 32 x oneF && eqN 32 y twoF), .bool true)
  | _ => none
theorem g33_ok (vs m : List V) (v : V) (h : g33 vs m = some (true, v)) : v.flat = true ∧ ∀ μ B w0 w, Under B w0 → Rel μ B w0 m w → PureAt Tryd.prog 33 (vs.map (V.den μ)).toArray (v.den μ) w := by
  unfold g33 at h
  split at h
  · rename_i o x y hv
    simp only [Option.some.injEq, Prod.mk.injEq, Bool.and_eq_true] at h
    obtain ⟨⟨h1, h2, h3⟩, rfl⟩ := h
    refine ⟨rfl, ?_⟩
    exact reads_ok (fn := Tryd.f33) (N := 300) (n := 20) hM p17_ok (noG_ok _) Tryd.func33 (by kernel_rfl) (by kernel_rfl) hv rfl (known_a h1 h2 h3) (by kernel_rfl)
  · cases h
theorem g33_grow (vs m : List V) (z : V) (r : Bool × V) (h : g33 vs m = some r) : g33 vs (m ++ [z]) = some r := by
  unfold g33 at h ⊢
  cases hv : views [2, 0, 3] vs m with
  | none => rw [hv] at h; cases h
  | some p => rw [hv] at h; rw [views_grow hv]; exact h
noncomputable def p33 : Orc := extM 33 g33 p17
theorem p33_ok : OrcOK Tryd.prog p33 := extM_ok p17_ok g33_ok g33_grow
noncomputable def lawRing (a : (Nat → Int)) (b : (Nat → Int)) (c : (Nat → Int)) : Bool := (cond (!(canO (addO a b))) false (cond (!(canO (mulO a b))) false (cond (!(canO (negO a))) false (cond (!(eqN 32 (addO a b) (addO b a))) false (cond (!(eqN 32 (mulO a b) (mulO b a))) false (cond (!(eqN 32 (addO (addO a b) c) (addO a (addO b c)))) false (cond (!(eqN 32 (mulO (mulO a b) c) (mulO a (mulO b c)))) false (cond (!(eqN 32 (mulO (addO a b) c) (addO (mulO a c) (mulO b c)))) false (cond (!(eqN 32 (addO (mulO a b) c) (addO (mulO a b) c))) false (cond (eqN 32 (addO a (negO a)) (fun _ => 0)) (cond (eqN 32 (addO a (negO b)) (addO a (negO b))) (cond (eqN 32 (mulO a oneF) (addO a (fun _ => 0))) (eqN 32 (mulO a (fun _ => 0)) (fun _ => 0)) false) false) false))))))))))
theorem lawRing_t (a : (Nat → Int)) (b : (Nat → Int)) (c : (Nat → Int)) : awp Tryd.prog p33 noG 300 (body Tryd.f8) (ends Tryd.prog Tryd.f8 fun v _ => okV (V.bool (lawRing a b c)) v) ⟨[(V.ints .u8 32 a), (V.ints .u8 32 b), (V.ints .u8 32 c)] ++ List.replicate 116 V.un, [(V.tup [V.fn 2, (V.ints .u64 4 ordF)]), (V.tup [V.fn 0, (V.ints .u8 32 oneF)]), (V.tup [V.fn 3, (V.ints .u8 32 twoF)])]⟩ = (mB (!(canO (addO a b))) ((V.bool false).den z0 = (V.bool (lawRing a b c)).den z0) (mB (!(canO (mulO a b))) ((V.bool false).den z0 = (V.bool (lawRing a b c)).den z0) (mB (!(canO (negO a))) ((V.bool false).den z0 = (V.bool (lawRing a b c)).den z0) (mB (!(eqN 32 (addO a b) (addO b a))) ((V.bool false).den z0 = (V.bool (lawRing a b c)).den z0) (mB (!(eqN 32 (mulO a b) (mulO b a))) ((V.bool false).den z0 = (V.bool (lawRing a b c)).den z0) (mB (!(eqN 32 (addO (addO a b) c) (addO a (addO b c)))) ((V.bool false).den z0 = (V.bool (lawRing a b c)).den z0) (mB (!(eqN 32 (mulO (mulO a b) c) (mulO a (mulO b c)))) ((V.bool false).den z0 = (V.bool (lawRing a b c)).den z0) (mB (!(eqN 32 (mulO (addO a b) c) (addO (mulO a c) (mulO b c)))) ((V.bool false).den z0 = (V.bool (lawRing a b c)).den z0) (mB (!(eqN 32 (addO (mulO a b) c) (addO (mulO a b) c))) ((V.bool false).den z0 = (V.bool (lawRing a b c)).den z0) (mB (eqN 32 (addO a (negO a)) (fun _ => 0)) (mB (eqN 32 (addO a (negO b)) (addO a (negO b))) (mB (eqN 32 (mulO a oneF) (addO a (fun _ => 0))) ((V.bool (eqN 32 (mulO a (fun _ => 0)) (fun _ => 0))).den z0 = (V.bool (lawRing a b c)).den z0) ((V.bool false).den z0 = (V.bool (lawRing a b c)).den z0)) ((V.bool false).den z0 = (V.bool (lawRing a b c)).den z0)) ((V.bool false).den z0 = (V.bool (lawRing a b c)).den z0))))))))))) := by kernel_rfl
theorem lawRing_a (a : (Nat → Int)) (b : (Nat → Int)) (c : (Nat → Int)) : awp Tryd.prog p33 noG 300 (body Tryd.f8) (ends Tryd.prog Tryd.f8 fun v _ => okV (V.bool (lawRing a b c)) v) ⟨[(V.ints .u8 32 a), (V.ints .u8 32 b), (V.ints .u8 32 c)] ++ List.replicate 116 V.un, [(V.tup [V.fn 2, (V.ints .u64 4 ordF)]), (V.tup [V.fn 0, (V.ints .u8 32 oneF)]), (V.tup [V.fn 3, (V.ints .u8 32 twoF)])]⟩ := by
  rw [lawRing_t]
  refine mBt (fun h1 => ?_) (fun h1 => ?_)
  · simp only [lawRing, h1, cond_true]
  · refine mBt (fun h2 => ?_) (fun h2 => ?_)
    · simp only [lawRing, h1, h2, cond_true, cond_false]
    · refine mBt (fun h3 => ?_) (fun h3 => ?_)
      · simp only [lawRing, h1, h2, h3, cond_true, cond_false]
      · refine mBt (fun h4 => ?_) (fun h4 => ?_)
        · simp only [lawRing, h1, h2, h3, h4, cond_true, cond_false]
        · refine mBt (fun h5 => ?_) (fun h5 => ?_)
          · simp only [lawRing, h1, h2, h3, h4, h5, cond_true, cond_false]
          · refine mBt (fun h6 => ?_) (fun h6 => ?_)
            · simp only [lawRing, h1, h2, h3, h4, h5, h6, cond_true, cond_false]
            · refine mBt (fun h7 => ?_) (fun h7 => ?_)
              · simp only [lawRing, h1, h2, h3, h4, h5, h6, h7, cond_true, cond_false]
              · refine mBt (fun h8 => ?_) (fun h8 => ?_)
                · simp only [lawRing, h1, h2, h3, h4, h5, h6, h7, h8, cond_true, cond_false]
                · refine mBt (fun h9 => ?_) (fun h9 => ?_)
                  · simp only [lawRing, h1, h2, h3, h4, h5, h6, h7, h8, h9, cond_true, cond_false]
                  · refine mBt (fun h10 => ?_) (fun h10 => ?_)
                    · refine mBt (fun h11 => ?_) (fun h11 => ?_)
                      · refine mBt (fun h12 => ?_) (fun h12 => ?_)
                        · simp only [lawRing, h1, h2, h3, h4, h5, h6, h7, h8, h9, h10, h11, h12, cond_true, cond_false]
                        · simp only [lawRing, h1, h2, h3, h4, h5, h6, h7, h8, h9, h10, h11, h12, cond_true, cond_false]
                      · simp only [lawRing, h1, h2, h3, h4, h5, h6, h7, h8, h9, h10, h11, cond_true, cond_false]
                    · simp only [lawRing, h1, h2, h3, h4, h5, h6, h7, h8, h9, h10, cond_false]
end Go.Proofs.YtnoehjibponofaaDoor
