/-
  A part of the groundwork of this seat's claims: an evaluator over the program, walks, and plain mathematics. Conditions: none.
-/
import Derived.Test.YtnoehjibponofaaDoorY05
/-
  1 + 1, 2 - 1, 2 times 2; the ring's law. Conditions: none.
-/
namespace Go.Proofs.YtnoehjibponofaaDoor
open Go.Ev
def oneF : Nat → Int := up 0 1 (fun _ => 0)
def twoF : Nat → Int := up 0 2 (fun _ => 0)
theorem eqN_mk {f g : Nat → Int} : ∀ {n : Nat}, (∀ j, j < n → f j = g j) → eqN n f g = true
  | 0, _ => rfl
  | n + 1, h => by
    simp only [eqN, Bool.and_eq_true, beq_iff_eq]
    exact ⟨eqN_mk fun j hj => h j (by omega), h n (by omega)⟩
theorem eqN_refl (n : Nat) (f : Nat → Int) : eqN n f f = true := eqN_mk fun _ _ => rfl
theorem ld_congr {f g : Nat → Int} {a : Nat} : ∀ {k : Nat}, (∀ j, j < a + k → f j = g j) → ldR f a k = ldR g a k
  | 0, _ => rfl
  | k + 1, h => by simp only [ldR]; rw [ld_congr (fun j hj => h j (by omega)), h (a + k) (by omega)]
theorem num_congr {a b : Nat → Int} (h : ∀ j, j < 32 → a j = b j) : num a = num b := by
  unfold num
  rw [loadO_eq]
  refine lvn_congr fun j hj => ?_
  unfold loadF
  exact ld_congr fun i hi => h i (by omega)
theorem num_nat {a : Nat → Int} {v : Int} (h0 : 0 ≤ v) (h1 : v < 115792089237316195423570985008687907853269984665640564039457584007913129639936) (h : ∀ j, j < 32 → a j = stF v j) : num a = v := by
  rw [num_congr h, num_st h0 h1]
theorem st_small {v : Int} (h0 : 0 ≤ v) (h1 : v < 256) : ∀ j, stF v j = up 0 v (fun _ => 0) j := by
  intro j
  rw [up_at]
  unfold stF
  split
  · rename_i h; subst h; rw [Int.pow_zero, Int.ediv_one]; omega
  · rename_i h
    obtain ⟨k, rfl⟩ : ∃ k, j = k + 1 := ⟨j - 1, by omega⟩
    have hp : (0 : Int) < 256 ^ k := Int.pow_pos (by omega)
    have : v < 256 ^ (k + 1) := by rw [Int.pow_succ]; omega
    rw [Int.ediv_eq_zero_of_lt h0 this]; rfl
theorem num_up {v : Int} (h0 : 0 ≤ v) (h1 : v < 256) : num (up 0 v (fun _ => 0)) = v :=
  num_nat h0 (by omega) fun j _ => (st_small h0 h1 j).symm
theorem num_zero : num (fun _ => 0) = 0 := num_nat (by omega) (by omega) fun j _ => by rw [st_small (by omega) (by omega), up_at]; split <;> rfl
theorem num_add (a b : Nat → Int) : num (addO a b) = (num a + num b) % LL := by rw [addO_eq]; exact num_mod _
theorem num_neg (a : Nat → Int) : num (negO a) = -num a % LL := by rw [negO_eq]; exact num_mod _
theorem num_mul (a b : Nat → Int) : num (mulO a b) = num a * num b % LL := by rw [mulO_eq]; exact num_mod _
theorem num_rdc (w : Nat → Int) : num (rdcO w) = lvn 8 (wideO w) % LL := by rw [rdcO_eq]; exact num_mod _
theorem can_iff (a : Nat → Int) : canO a = decide (num a < LL) := by rw [canO_eq]
/-- An answer is the bytes of its number. -/
theorem add_st (a b : Nat → Int) : addO a b = stF (num (addO a b)) := by rw [num_add, addO_eq]
theorem neg_st (a : Nat → Int) : negO a = stF (num (negO a)) := by rw [num_neg, negO_eq]
theorem mul_st (a b : Nat → Int) : mulO a b = stF (num (mulO a b)) := by rw [num_mul, mulO_eq]
theorem rdc_st (w : Nat → Int) : rdcO w = stF (num (rdcO w)) := by rw [num_rdc, rdcO_eq]
theorem ea (a b : Int) : (a % LL + b) % LL = (a + b) % LL := Int.emod_add_emod _ _ _
theorem eb (a b : Int) : (a + b % LL) % LL = (a + b) % LL := by rw [Int.add_comm, ea, Int.add_comm]
theorem ma (a b : Int) : (a % LL * b) % LL = (a * b) % LL := by rw [Int.mul_emod, Int.emod_emod_of_dvd _ (Int.dvd_refl _), ← Int.mul_emod]
theorem mb (a b : Int) : (a * (b % LL)) % LL = (a * b) % LL := by rw [Int.mul_comm, ma, Int.mul_comm]
theorem na (a : Int) : (-(a % LL)) % LL = -a % LL := by
  have e : -a = -(a % LL) + LL * -(a / LL) := by have := Int.mul_ediv_add_emod a LL; rw [Int.mul_neg]; omega
  rw [e, Int.add_mul_emod_self_left]
theorem mm (a : Int) : a % LL % LL = a % LL := Int.emod_emod_of_dvd _ (Int.dvd_refl _)
theorem nn (a : Int) : -(-a % LL) % LL = a % LL := by rw [na, Int.neg_neg]
theorem can_mod {a : Nat → Int} (n : Int) (h : num a = n % LL) : canO a = true := by rw [can_iff, h]; exact decide_eq_true (mod_nn n).2
theorem known_t (o x y : Nat → Int) : awp Tryd.prog p17 noG 300 (body Tryd.f33) (ends Tryd.prog Tryd.f33 fun v _ => okV (V.bool true) v) ⟨[] ++ List.replicate 20 V.un, [(V.tup [V.fn 2, (V.ints .u64 4 o)]), (V.tup [V.fn 0, (V.ints .u8 32 x)]), (V.tup [V.fn 3, (V.ints .u8 32 y)])]⟩ = (gB (eqN 4 o ordF) (mB (eqN 32 (addO x x) y) (gB (eqN 4 o ordF) (mB (eqN 32 (addO y (negO x)) x) (gB (eqN 4 o ordF) ((V.bool (eqN 32 (mulO y y) (up 0 4 (fun _ => 0)))).den z0 = (V.bool true).den z0)) ((V.bool false).den z0 = (V.bool true).den z0))) ((V.bool false).den z0 = (V.bool true).den z0))) := by kernel_rfl
theorem known_vals {x y : Nat → Int} (hx : eqN 32 x oneF = true) (hy : eqN 32 y twoF = true) : eqN 32 (addO x x) y = true ∧ eqN 32 (addO y (negO x)) x = true ∧ eqN 32 (mulO y y) (up 0 4 (fun _ => 0)) = true := by
  have X := eqN_at hx; have Y := eqN_at hy
  have n1 : num x = 1 := by rw [num_congr X]; exact num_up (by omega) (by omega)
  have n2 : num y = 2 := by rw [num_congr Y]; exact num_up (by omega) (by omega)
  refine ⟨eqN_mk fun j hj => ?_, eqN_mk fun j hj => ?_, eqN_mk fun j hj => ?_⟩
  · rw [add_st, num_add, n1, Y j hj, show ((1 : Int) + 1) % LL = 2 by decide]; exact st_small (by omega) (by omega) j
  · rw [add_st, num_add, num_neg, n1, n2, X j hj, show ((2 : Int) + -1 % LL) % LL = 1 by decide]; exact st_small (by omega) (by omega) j
  · rw [mul_st, num_mul, n2, show ((2 : Int) * 2) % LL = 4 by decide]; exact st_small (by omega) (by omega) j
theorem known_a {o x y : Nat → Int} (ho : eqN 4 o ordF = true) (hx : eqN 32 x oneF = true) (hy : eqN 32 y twoF = true) : awp Tryd.prog p17 noG 300 (body Tryd.f33) (ends Tryd.prog Tryd.f33 fun v _ => okV (V.bool true) v) ⟨[] ++ List.replicate 20 V.un, [(V.tup [V.fn 2, (V.ints .u64 4 o)]), (V.tup [V.fn 0, (V.ints .u8 32 x)]), (V.tup [V.fn 3, (V.ints .u8 32 y)])]⟩ := by
  have k := known_vals hx hy
  rw [known_t]
  refine gm ho ?_
  refine mBt (fun h0 => ?_) (fun h0 => ?_)
  · refine gm ho ?_
    refine mBt (fun h1 => ?_) (fun h1 => ?_)
    · refine gm ho ?_
      first | rfl | (rw [k.2.2])
    · rw [k.2.1] at h1; cases h1
  · rw [k.1] at h0; cases h0
noncomputable def g33 : List V → List V → Option (Bool × V) := fun vs m => match views [2, 0, 3] vs m with
  | some ([], [.tup [.fn 2, .ints .u64 4 o], .tup [.fn 0, .ints .u8 32 x], .tup [.fn 3, .ints .u8 32 y]]) => some (eqN 4 o ordF && (eqN 32 x oneF && eqN 32 y twoF), .bool true)
  | _ => none
theorem g33_ok (vs m : List V) (v : V) (h : g33 vs m = some (true, v)) : v.flat = true ∧ ∀ μ B w0 w, Under B w0 → Rel μ B w0 m w → PureAt Tryd.prog 33 (vs.map (V.den μ)).toArray (v.den μ) w := by
  unfold g33 at h
  split at h
  · rename_i o x y hv
    simp only [Option.some.injEq, Prod.mk.injEq, Bool.and_eq_true] at h
    obtain ⟨⟨h1, h2, h3⟩, rfl⟩ := h
    refine ⟨rfl, ?_⟩
    exact reads_ok (fn := Tryd.f33) (N := 300) (n := 20) hM p17_ok (noG_ok _) Tryd.func33 (by kernel_rfl) (by kernel_rfl) hv rfl (known_a h1 h2 h3) (by kernel_rfl)
  · cases h
theorem g33_grow (vs m : List V) (z : V) (r : Bool × V) (h : g33 vs m = some r) : g33 vs (m ++ [z]) = some r := by
  unfold g33 at h ⊢
  cases hv : views [2, 0, 3] vs m with
  | none => rw [hv] at h; cases h
  | some p => rw [hv] at h; rw [views_grow hv]; exact h
noncomputable def p33 : Orc := extM 33 g33 p17
theorem p33_ok : OrcOK Tryd.prog p33 := extM_ok p17_ok g33_ok g33_grow
noncomputable def lawRing (a : (Nat → Int)) (b : (Nat → Int)) (c : (Nat → Int)) : Bool := (cond (!(canO (addO a b))) false (cond (!(canO (mulO a b))) false (cond (!(canO (negO a))) false (cond (!(eqN 32 (addO a b) (addO b a))) false (cond (!(eqN 32 (mulO a b) (mulO b a))) false (cond (!(eqN 32 (addO (addO a b) c) (addO a (addO b c)))) false (cond (!(eqN 32 (mulO (mulO a b) c) (mulO a (mulO b c)))) false (cond (!(eqN 32 (mulO (addO a b) c) (addO (mulO a c) (mulO b c)))) false (cond (!(eqN 32 (addO (mulO a b) c) (addO (mulO a b) c))) false (cond (eqN 32 (addO a (negO a)) (fun _ => 0)) (cond (eqN 32 (addO a (negO b)) (addO a (negO b))) (cond (eqN 32 (mulO a oneF) (addO a (fun _ => 0))) (eqN 32 (mulO a (fun _ => 0)) (fun _ => 0)) false) false) false))))))))))
theorem lawRing_t (a : (Nat → Int)) (b : (Nat → Int)) (c : (Nat → Int)) : awp Tryd.prog p33 noG 300 (body Tryd.f8) (ends Tryd.prog Tryd.f8 fun v _ => okV (V.bool (lawRing a b c)) v) ⟨[(V.ints .u8 32 a), (V.ints .u8 32 b), (V.ints .u8 32 c)] ++ List.replicate 116 V.un, [(V.tup [V.fn 2, (V.ints .u64 4 ordF)]), (V.tup [V.fn 0, (V.ints .u8 32 oneF)]), (V.tup [V.fn 3, (V.ints .u8 32 twoF)])]⟩ = (mB (!(canO (addO a b))) ((V.bool false).den z0 = (V.bool (lawRing a b c)).den z0) (mB (!(canO (mulO a b))) ((V.bool false).den z0 = (V.bool (lawRing a b c)).den z0) (mB (!(canO (negO a))) ((V.bool false).den z0 = (V.bool (lawRing a b c)).den z0) (mB (!(eqN 32 (addO a b) (addO b a))) ((V.bool false).den z0 = (V.bool (lawRing a b c)).den z0) (mB (!(eqN 32 (mulO a b) (mulO b a))) ((V.bool false).den z0 = (V.bool (lawRing a b c)).den z0) (mB (!(eqN 32 (addO (addO a b) c) (addO a (addO b c)))) ((V.bool false).den z0 = (V.bool (lawRing a b c)).den z0) (mB (!(eqN 32 (mulO (mulO a b) c) (mulO a (mulO b c)))) ((V.bool false).den z0 = (V.bool (lawRing a b c)).den z0) (mB (!(eqN 32 (mulO (addO a b) c) (addO (mulO a c) (mulO b c)))) ((V.bool false).den z0 = (V.bool (lawRing a b c)).den z0) (mB (!(eqN 32 (addO (mulO a b) c) (addO (mulO a b) c))) ((V.bool false).den z0 = (V.bool (lawRing a b c)).den z0) (mB (eqN 32 (addO a (negO a)) (fun _ => 0)) (mB (eqN 32 (addO a (negO b)) (addO a (negO b))) (mB (eqN 32 (mulO a oneF) (addO a (fun _ => 0))) ((V.bool (eqN 32 (mulO a (fun _ => 0)) (fun _ => 0))).den z0 = (V.bool (lawRing a b c)).den z0) ((V.bool false).den z0 = (V.bool (lawRing a b c)).den z0)) ((V.bool false).den z0 = (V.bool (lawRing a b c)).den z0)) ((V.bool false).den z0 = (V.bool (lawRing a b c)).den z0))))))))))) := by kernel_rfl
theorem lawRing_a (a : (Nat → Int)) (b : (Nat → Int)) (c : (Nat → Int)) : awp Tryd.prog p33 noG 300 (body Tryd.f8) (ends Tryd.prog Tryd.f8 fun v _ => okV (V.bool (lawRing a b c)) v) ⟨[(V.ints .u8 32 a), (V.ints .u8 32 b), (V.ints .u8 32 c)] ++ List.replicate 116 V.un, [(V.tup [V.fn 2, (V.ints .u64 4 ordF)]), (V.tup [V.fn 0, (V.ints .u8 32 oneF)]), (V.tup [V.fn 3, (V.ints .u8 32 twoF)])]⟩ := by
  rw [lawRing_t]
  refine mBt (fun h1 => ?_) (fun h1 => ?_)
  · simp only [lawRing, h1, cond_true]
  · refine mBt (fun h2 => ?_) (fun h2 => ?_)
    · simp only [lawRing, h1, h2, cond_true, cond_false]
    · refine mBt (fun h3 => ?_) (fun h3 => ?_)
      · simp only [lawRing, h1, h2, h3, cond_true, cond_false]
      · refine mBt (fun h4 => ?_) (fun h4 => ?_)
        · simp only [lawRing, h1, h2, h3, h4, cond_true, cond_false]
        · refine mBt (fun h5 => ?_) (fun h5 => ?_)
          · simp only [lawRing, h1, h2, h3, h4, h5, cond_true, cond_false]
          · refine mBt (fun h6 => ?_) (fun h6 => ?_)
            · simp only [lawRing, h1, h2, h3, h4, h5, h6, cond_true, cond_false]
            · refine mBt (fun h7 => ?_) (fun h7 => ?_)
              · simp only [lawRing, h1, h2, h3, h4, h5, h6, h7, cond_true, cond_false]
              · refine mBt (fun h8 => ?_) (fun h8 => ?_)
                · simp only [lawRing, h1, h2, h3, h4, h5, h6, h7, h8, cond_true, cond_false]
                · refine mBt (fun h9 => ?_) (fun h9 => ?_)
                  · simp only [lawRing, h1, h2, h3, h4, h5, h6, h7, h8, h9, cond_true, cond_false]
                  · refine mBt (fun h10 => ?_) (fun h10 => ?_)
                    · refine mBt (fun h11 => ?_) (fun h11 => ?_)
                      · refine mBt (fun h12 => ?_) (fun h12 => ?_)
                        · simp only [lawRing, h1, h2, h3, h4, h5, h6, h7, h8, h9, h10, h11, h12, cond_true, cond_false]
                        · simp only [lawRing, h1, h2, h3, h4, h5, h6, h7, h8, h9, h10, h11, h12, cond_true, cond_false]
                      · simp only [lawRing, h1, h2, h3, h4, h5, h6, h7, h8, h9, h10, h11, cond_true, cond_false]
                    · simp only [lawRing, h1, h2, h3, h4, h5, h6, h7, h8, h9, h10, cond_false]
end Go.Proofs.YtnoehjibponofaaDoor

/-
  shifted, above: contracts; the laws of halves and of the one form. Conditions: none.
-/
namespace Go.Proofs.YtnoehjibponofaaDoor
open Go.Ev
def shiftF (a b : Nat → Int) : Nat → Int := (up 63 (b 31) (up 31 (a 31) (up 62 (b 30) (up 30 (a 30) (up 61 (b 29) (up 29 (a 29) (up 60 (b 28) (up 28 (a 28) (up 59 (b 27) (up 27 (a 27) (up 58 (b 26) (up 26 (a 26) (up 57 (b 25) (up 25 (a 25) (up 56 (b 24) (up 24 (a 24) (up 55 (b 23) (up 23 (a 23) (up 54 (b 22) (up 22 (a 22) (up 53 (b 21) (up 21 (a 21) (up 52 (b 20) (up 20 (a 20) (up 51 (b 19) (up 19 (a 19) (up 50 (b 18) (up 18 (a 18) (up 49 (b 17) (up 17 (a 17) (up 48 (b 16) (up 16 (a 16) (up 47 (b 15) (up 15 (a 15) (up 46 (b 14) (up 14 (a 14) (up 45 (b 13) (up 13 (a 13) (up 44 (b 12) (up 12 (a 12) (up 43 (b 11) (up 11 (a 11) (up 42 (b 10) (up 10 (a 10) (up 41 (b 9) (up 9 (a 9) (up 40 (b 8) (up 8 (a 8) (up 39 (b 7) (up 7 (a 7) (up 38 (b 6) (up 6 (a 6) (up 37 (b 5) (up 5 (a 5) (up 36 (b 4) (up 4 (a 4) (up 35 (b 3) (up 3 (a 3) (up 34 (b 2) (up 2 (a 2) (up 33 (b 1) (up 1 (a 1) (up 32 (b 0) (up 0 (a 0) (fun _ => 0)))))))))))))))))))))))))))))))))))))))))))))))))))))))))))))))))
theorem shift_a (a b : Nat → Int) : awp Tryd.prog p33 noG 300 (body Tryd.f34) (ends Tryd.prog Tryd.f34 fun v _ => okV (V.ints .u8 64 (shiftF a b)) v) ⟨[V.ints .u8 32 a, V.ints .u8 32 b] ++ List.replicate 21 V.un, []⟩ := by
  have h : awp Tryd.prog p33 noG 300 (body Tryd.f34) (ends Tryd.prog Tryd.f34 fun v _ => okV (V.ints .u8 64 (shiftF a b)) v) ⟨[V.ints .u8 32 a, V.ints .u8 32 b] ++ List.replicate 21 V.un, []⟩ = okV (V.ints .u8 64 (shiftF a b)) (V.ints .u8 64 (shiftF a b)) := by kernel_rfl
  rw [h]
  exact okV_refl rfl
noncomputable def g34 : List V → Option (Bool × V) := fun | [.ints .u8 32 a, .ints .u8 32 b] => some (true, (V.ints .u8 64 (shiftF a b))) | _ => none
theorem g34_ok (vs : List V) (v : V) (h : g34 vs = some (true, v)) : (∀ μ μ', v.den μ' = v.den μ) ∧ ∀ μ w, PureAt Tryd.prog 34 (vs.map (V.den μ)).toArray (v.den μ) w := by
  unfold g34 at h
  split at h
  · simp only [Option.some.injEq, Prod.mk.injEq, true_and] at h
    subst h
    exact pure_ok (F := p33) (N := 300) (fn := Tryd.f34) (args := [_, _]) (r := _) (n := 21) hM p33_ok (noG_ok _) Tryd.func34 (by kernel_rfl) (by kernel_rfl) (by kernel_rfl) (by kernel_rfl) (shift_a _ _) (by kernel_rfl)
  · cases h
noncomputable def p34 : Orc := ext 34 g34 p33
theorem p34_ok : OrcOK Tryd.prog p34 := ext_ok p33_ok g34_ok
def abK (a o : Nat → Int) : Nat → Int
  | 0 => 0
  | k + 1 => quoI .i64 (addI .i64 (addI .i64 (IntKind.wrap .i64 (a k)) (IntKind.wrap .i64 (o k))) (abK a o k)) 256
def abS (a o : Nat → Int) (k : Nat) : Int := addI .i64 (addI .i64 (IntKind.wrap .i64 (a k)) (IntKind.wrap .i64 (o k))) (abK a o k)
def abF (a o : Nat → Int) : Nat → (Nat → Int)
  | 0 => a
  | k + 1 => up k (IntKind.wrap .u8 (remI (addI .i64 (addI .i64 (IntKind.wrap .i64 (a k)) (IntKind.wrap .i64 (o k))) (abK a o k)) 256)) (abF a o k)
theorem above_a (a o : Nat → Int) : awp Tryd.prog p34 noG 300 (body Tryd.f35) (ends Tryd.prog Tryd.f35 fun v _ => okV (V.tup [V.ints .u8 32 (abF a o 32), V.bool (abK a o 32 == 0)]) v) ⟨[V.ints .u8 32 a] ++ List.replicate 31 V.un, [V.tup [V.fn 1, V.ints .u8 32 o]]⟩ := by
  have h : awp Tryd.prog p34 noG 300 (body Tryd.f35) (ends Tryd.prog Tryd.f35 fun v _ => okV (V.tup [V.ints .u8 32 (abF a o 32), V.bool (abK a o 32 == 0)]) v) ⟨[V.ints .u8 32 a] ++ List.replicate 31 V.un, [V.tup [V.fn 1, V.ints .u8 32 o]]⟩ = okV (V.tup [V.ints .u8 32 (abF a o 32), V.bool (abK a o 32 == 0)]) (V.tup [V.ints .u8 32 (abF a o 32), V.bool (abK a o 32 == 0)]) := by kernel_rfl
  rw [h]
  exact okV_refl rfl
noncomputable def abFO : (Nat → Int) → (Nat → Int) → Nat → Int := Classical.choose (hide_ex fun a o => abF a o 32)
theorem abFO_eq : abFO = fun a o => abF a o 32 := Classical.choose_spec (hide_ex fun a o => abF a o 32)
noncomputable def abBO : (Nat → Int) → (Nat → Int) → Bool := Classical.choose (hide_ex fun a o => abK a o 32 == 0)
theorem abBO_eq : abBO = fun a o => abK a o 32 == 0 := Classical.choose_spec (hide_ex fun a o => abK a o 32 == 0)
noncomputable def g35 : List V → List V → Option (Bool × V) := fun vs m => match views [1] vs m with
  | some ([.ints .u8 32 a], [.tup [.fn 1, .ints .u8 32 o]]) => some (true, .tup [.ints .u8 32 (abFO a o), .bool (abBO a o)])
  | _ => none
theorem g35_ok (vs m : List V) (v : V) (h : g35 vs m = some (true, v)) : v.flat = true ∧ ∀ μ B w0 w, Under B w0 → Rel μ B w0 m w → PureAt Tryd.prog 35 (vs.map (V.den μ)).toArray (v.den μ) w := by
  unfold g35 at h
  split at h
  · rename_i a o hv
    simp only [Option.some.injEq, Prod.mk.injEq, true_and] at h
    subst h
    refine ⟨rfl, ?_⟩
    rw [abFO_eq, abBO_eq]
    exact reads_ok (fn := Tryd.f35) (N := 300) (n := 31) hM p34_ok (noG_ok _) Tryd.func35 (by kernel_rfl) (by kernel_rfl) hv rfl (above_a a o) (by kernel_rfl)
  · cases h
theorem g35_grow (vs m : List V) (z : V) (r : Bool × V) (h : g35 vs m = some r) : g35 vs (m ++ [z]) = some r := by
  unfold g35 at h ⊢
  cases hv : views [1] vs m with
  | none => rw [hv] at h; cases h
  | some p => rw [hv] at h; rw [views_grow hv]; exact h
noncomputable def p35 : Orc := extM 35 g35 p34
theorem p35_ok : OrcOK Tryd.prog p35 := extM_ok p34_ok g35_ok g35_grow
def ordB : Nat → Int := L [237, 211, 245, 92, 26, 99, 18, 88, 214, 156, 247, 162, 222, 249, 222, 20, 0, 0, 0, 0, 0, 0, 0, 0, 0, 0, 0, 0, 0, 0, 0, 16]
noncomputable def lawHalves (low : (Nat → Int)) (high : (Nat → Int)) : Bool := (eqN 32 (rdcO (shiftF low high)) (addO (mulO high (rdcO (shiftF (fun _ => 0) oneF))) low))
theorem lawHalves_t (low : (Nat → Int)) (high : (Nat → Int)) : awp Tryd.prog p35 noG 300 (body Tryd.f9) (ends Tryd.prog Tryd.f9 fun v _ => okV (V.bool (lawHalves low high)) v) ⟨[(V.ints .u8 32 low), (V.ints .u8 32 high)] ++ List.replicate 20 V.un, [(V.tup [V.fn 2, (V.ints .u64 4 ordF)]), (V.tup [V.fn 0, (V.ints .u8 32 oneF)]), (V.tup [V.fn 3, (V.ints .u8 32 twoF)])]⟩ = ((V.bool (eqN 32 (rdcO (shiftF low high)) (addO (mulO high (rdcO (shiftF (fun _ => 0) oneF))) low))).den z0 = (V.bool (lawHalves low high)).den z0) := by kernel_rfl
theorem lawHalves_a (low : (Nat → Int)) (high : (Nat → Int)) : awp Tryd.prog p35 noG 300 (body Tryd.f9) (ends Tryd.prog Tryd.f9 fun v _ => okV (V.bool (lawHalves low high)) v) ⟨[(V.ints .u8 32 low), (V.ints .u8 32 high)] ++ List.replicate 20 V.un, [(V.tup [V.fn 2, (V.ints .u64 4 ordF)]), (V.tup [V.fn 0, (V.ints .u8 32 oneF)]), (V.tup [V.fn 3, (V.ints .u8 32 twoF)])]⟩ := by
  rw [lawHalves_t]
  simp only [lawHalves]
def w32 (a : Nat → Int) : Nat → Int := (up 31 (a 31) (up 30 (a 30) (up 29 (a 29) (up 28 (a 28) (up 27 (a 27) (up 26 (a 26) (up 25 (a 25) (up 24 (a 24) (up 23 (a 23) (up 22 (a 22) (up 21 (a 21) (up 20 (a 20) (up 19 (a 19) (up 18 (a 18) (up 17 (a 17) (up 16 (a 16) (up 15 (a 15) (up 14 (a 14) (up 13 (a 13) (up 12 (a 12) (up 11 (a 11) (up 10 (a 10) (up 9 (a 9) (up 8 (a 8) (up 7 (a 7) (up 6 (a 6) (up 5 (a 5) (up 4 (a 4) (up 3 (a 3) (up 2 (a 2) (up 1 (a 1) (up 0 (a 0) (fun _ => 0)))))))))))))))))))))))))))))))))
noncomputable def lawOneForm (a : (Nat → Int)) : Bool := (cond (!(eqN 32 (rdcO (w32 a)) (addO a (fun _ => 0)))) false (cond (!(canO (rdcO (w32 a)))) false (cond (canO ordB) false (cond (!((canO a) == (eqN 32 (rdcO (w32 a)) a))) false (cond (!(abBO a ordB)) true (cond (!(canO (abFO a ordB))) (eqN 32 (addO (abFO a ordB) (fun _ => 0)) (rdcO (w32 a))) false))))))
theorem lawOneForm_t (a : (Nat → Int)) : awp Tryd.prog p35 noG 300 (body Tryd.f10) (ends Tryd.prog Tryd.f10 fun v _ => okV (V.bool (lawOneForm a)) v) ⟨[(V.ints .u8 32 a)] ++ List.replicate 64 V.un, [(V.tup [V.fn 2, (V.ints .u64 4 ordF)]), (V.tup [V.fn 0, (V.ints .u8 32 oneF)]), (V.tup [V.fn 3, (V.ints .u8 32 twoF)]), (V.tup [V.fn 1, (V.ints .u8 32 ordB)])]⟩ = (mB (!(eqN 32 (rdcO (w32 a)) (addO a (fun _ => 0)))) ((V.bool false).den z0 = (V.bool (lawOneForm a)).den z0) (mB (!(canO (rdcO (w32 a)))) ((V.bool false).den z0 = (V.bool (lawOneForm a)).den z0) (mB (canO ordB) ((V.bool false).den z0 = (V.bool (lawOneForm a)).den z0) (mB (!((canO a) == (eqN 32 (rdcO (w32 a)) a))) ((V.bool false).den z0 = (V.bool (lawOneForm a)).den z0) (mB (!(abBO a ordB)) ((V.bool true).den z0 = (V.bool (lawOneForm a)).den z0) (mB (!(canO (abFO a ordB))) ((V.bool (eqN 32 (addO (abFO a ordB) (fun _ => 0)) (rdcO (w32 a)))).den z0 = (V.bool (lawOneForm a)).den z0) ((V.bool false).den z0 = (V.bool (lawOneForm a)).den z0))))))) := by kernel_rfl
theorem lawOneForm_a (a : (Nat → Int)) : awp Tryd.prog p35 noG 300 (body Tryd.f10) (ends Tryd.prog Tryd.f10 fun v _ => okV (V.bool (lawOneForm a)) v) ⟨[(V.ints .u8 32 a)] ++ List.replicate 64 V.un, [(V.tup [V.fn 2, (V.ints .u64 4 ordF)]), (V.tup [V.fn 0, (V.ints .u8 32 oneF)]), (V.tup [V.fn 3, (V.ints .u8 32 twoF)]), (V.tup [V.fn 1, (V.ints .u8 32 ordB)])]⟩ := by
  rw [lawOneForm_t]
  refine mBt (fun h1 => ?_) (fun h1 => ?_)
  · simp only [lawOneForm, h1, cond_true]
  · refine mBt (fun h2 => ?_) (fun h2 => ?_)
    · simp only [lawOneForm, h1, h2, cond_true, cond_false]
    · refine mBt (fun h3 => ?_) (fun h3 => ?_)
      · simp only [lawOneForm, h1, h2, h3, cond_true, cond_false]
      · refine mBt (fun h4 => ?_) (fun h4 => ?_)
        · simp only [lawOneForm, h1, h2, h3, h4, cond_true, cond_false]
        · refine mBt (fun h5 => ?_) (fun h5 => ?_)
          · simp only [lawOneForm, h1, h2, h3, h4, h5, cond_true, cond_false]
          · refine mBt (fun h6 => ?_) (fun h6 => ?_)
            · simp only [lawOneForm, h1, h2, h3, h4, h5, h6, cond_true, cond_false]
            · simp only [lawOneForm, h1, h2, h3, h4, h5, h6, cond_false]
end Go.Proofs.YtnoehjibponofaaDoor

/-
  The ring's law answers true. Conditions: none.
-/
namespace Go.Proofs.YtnoehjibponofaaDoor
open Go.Ev
theorem eq_st {x y : Nat → Int} (hx : x = stF (num x)) (hy : y = stF (num y)) (h : num x = num y) : eqN 32 x y = true := by
  have : x = y := hx.trans ((congrArg stF h).trans hy.symm)
  rw [this]; exact eqN_refl _ _
theorem st_zero : stF 0 = fun _ => 0 := by funext j; simp [stF]
theorem zero_st : (fun _ => (0 : Int)) = stF (num (fun _ => 0)) := by rw [num_zero, st_zero]
theorem num_one : num oneF = 1 := num_up (by omega) (by omega)
theorem lawRing_true (a b c : Nat → Int) : lawRing a b c = true := by
  have c1 : canO (addO a b) = true := can_mod _ (num_add a b)
  have c2 : canO (mulO a b) = true := can_mod _ (num_mul a b)
  have c3 : canO (negO a) = true := can_mod _ (num_neg a)
  have e1 : eqN 32 (addO a b) (addO b a) = true := eq_st (add_st _ _) (add_st _ _) (by rw [num_add, num_add, Int.add_comm])
  have e2 : eqN 32 (mulO a b) (mulO b a) = true := eq_st (mul_st _ _) (mul_st _ _) (by rw [num_mul, num_mul, Int.mul_comm])
  have e3 : eqN 32 (addO (addO a b) c) (addO a (addO b c)) = true := eq_st (add_st _ _) (add_st _ _) (by simp only [num_add, ea, eb, Int.add_assoc])
  have e4 : eqN 32 (mulO (mulO a b) c) (mulO a (mulO b c)) = true := eq_st (mul_st _ _) (mul_st _ _) (by simp only [num_mul, ma, mb, Int.mul_assoc])
  have e5 : eqN 32 (mulO (addO a b) c) (addO (mulO a c) (mulO b c)) = true := eq_st (mul_st _ _) (add_st _ _) (by simp only [num_mul, num_add, ma, ea, eb, Int.add_mul])
  have e6 : eqN 32 (addO (mulO a b) c) (addO (mulO a b) c) = true := eqN_refl _ _
  have e7 : eqN 32 (addO a (negO a)) (fun _ => 0) = true := eq_st (add_st _ _) zero_st (by rw [num_add, num_neg, eb, num_zero, Int.add_right_neg]; rfl)
  have e8 : eqN 32 (addO a (negO b)) (addO a (negO b)) = true := eqN_refl _ _
  have e9 : eqN 32 (mulO a oneF) (addO a (fun _ => 0)) = true := eq_st (mul_st _ _) (add_st _ _) (by rw [num_mul, num_add, num_one, num_zero, Int.mul_one, Int.add_zero])
  have e10 : eqN 32 (mulO a (fun _ => 0)) (fun _ => 0) = true := eq_st (mul_st _ _) zero_st (by rw [num_mul, num_zero, Int.mul_zero]; rfl)
  simp only [lawRing, c1, c2, c3, e1, e2, e3, e4, e5, e6, e7, e8, e9, e10, Bool.not_true, cond_false, cond_true]
end Go.Proofs.YtnoehjibponofaaDoor

/-
  Digits: the number of a row of digits, carries, borrows, comparison. Plain. Conditions: none.
-/
namespace Go.Num

/-- The number of the first n digits to the base B, the lowest first. -/
def dv (B : Int) : Nat → (Nat → Int) → Int
  | 0, _ => 0
  | n + 1, a => a 0 + B * dv B n fun i => a (i + 1)
def pw (B : Int) : Nat → Int
  | 0 => 1
  | n + 1 => B * pw B n

theorem sm' (x : Int) (h0 : 0 ≤ x) (h1 : x < 18446744073709551616) : x % 18446744073709551616 = x := Int.emod_eq_of_lt h0 h1
theorem pw_pos {B : Int} (hB : 0 < B) : ∀ n, 0 < pw B n
  | 0 => by simp [pw]
  | n + 1 => Int.mul_pos hB (pw_pos hB n)

theorem dv_congr {B : Int} : ∀ {n : Nat} {a b : Nat → Int}, (∀ i, i < n → a i = b i) → dv B n a = dv B n b
  | 0, _, _, _ => rfl
  | n + 1, a, b, h => by
    simp only [dv]
    rw [h 0 (by omega), dv_congr (a := fun i => a (i + 1)) (b := fun i => b (i + 1)) fun i hi => h (i + 1) (by omega)]

theorem dv_add {B : Int} : ∀ {n : Nat} {a b : Nat → Int}, dv B n (fun i => a i + b i) = dv B n a + dv B n b
  | 0, _, _ => rfl
  | n + 1, a, b => by
    simp only [dv]
    rw [dv_add (a := fun i => a (i + 1)) (b := fun i => b (i + 1)), Int.mul_add]; omega
theorem dv_mul {B c : Int} : ∀ {n : Nat} {a : Nat → Int}, dv B n (fun i => c * a i) = c * dv B n a
  | 0, _ => by simp [dv]
  | n + 1, a => by
    simp only [dv]
    rw [dv_mul (a := fun i => a (i + 1)), Int.mul_add, Int.mul_left_comm]
theorem dv_zero {B : Int} : ∀ {n : Nat}, dv B n (fun _ => 0) = 0
  | 0 => rfl
  | n + 1 => by simp only [dv]; rw [dv_zero]; simp
/-- The topmost digit split off. -/
theorem dv_top {B : Int} : ∀ {n : Nat} {a : Nat → Int}, dv B (n + 1) a = dv B n a + pw B n * a n
  | 0, a => by simp [dv, pw]
  | n + 1, a => by
    rw [dv, dv_top, dv, pw]
    rw [Int.mul_add, Int.mul_assoc]; omega
theorem dv_split {B : Int} {m : Nat} : ∀ {n : Nat} {a : Nat → Int}, dv B (n + m) a = dv B n a + pw B n * dv B m fun i => a (n + i)
  | 0, a => by simp [dv, pw]
  | n + 1, a => by
    rw [show n + 1 + m = (n + m) + 1 by omega, dv, dv_split, dv, pw]
    rw [Int.mul_add, Int.mul_assoc, show (fun i => a (n + i + 1)) = (fun i => a (n + 1 + i)) from funext fun i => by congr 1; omega]; omega

theorem dv_bound {B : Int} (hB : 0 < B) : ∀ {n : Nat} {a : Nat → Int}, (∀ i, i < n → 0 ≤ a i ∧ a i < B) → 0 ≤ dv B n a ∧ dv B n a < pw B n
  | 0, _, _ => by simp [dv, pw]
  | n + 1, a, h => by
    have h0 := h 0 (by omega)
    obtain ⟨i0, i1⟩ := dv_bound hB (a := fun i => a (i + 1)) (n := n) fun i hi => h (i + 1) (by omega)
    simp only [dv, pw]
    refine ⟨Int.add_nonneg h0.1 (Int.mul_nonneg (by omega) i0), ?_⟩
    have h2 : dv B n (fun i => a (i + 1)) + 1 ≤ pw B n := by omega
    have h3 := Int.mul_le_mul_of_nonneg_left h2 (by omega : 0 ≤ B)
    rw [Int.mul_add] at h3
    omega

theorem dv_inj {B : Int} (hB : 0 < B) : ∀ {n : Nat} {a b : Nat → Int}, (∀ i, i < n → 0 ≤ a i ∧ a i < B) → (∀ i, i < n → 0 ≤ b i ∧ b i < B) → dv B n a = dv B n b → ∀ i, i < n → a i = b i
  | 0, _, _, _, _, _, i, hi => by omega
  | n + 1, a, b, ha, hb, h, i, hi => by
    simp only [dv] at h
    have a0 := ha 0 (by omega)
    have b0 := hb 0 (by omega)
    have e : a 0 = b 0 := by
      have h1 := congrArg (· % B) h
      simp only [Int.add_mul_emod_self_left] at h1
      rwa [Int.emod_eq_of_lt a0.1 a0.2, Int.emod_eq_of_lt b0.1 b0.2] at h1
    rw [e] at h
    have h2 : B * dv B n (fun i => a (i + 1)) = B * dv B n (fun i => b (i + 1)) := by omega
    have h3 := Int.eq_of_mul_eq_mul_left (by omega) h2
    cases i with
    | zero => exact e
    | succ i => exact dv_inj hB (a := fun i => a (i + 1)) (b := fun i => b (i + 1)) (fun i hi => ha (i + 1) (by omega)) (fun i hi => hb (i + 1) (by omega)) h3 i (by omega)

/-- Carries: c is the chain, o what stays; t comes in at the lowest. -/
theorem dv_carry {B : Int} : ∀ {n : Nat} {a c o : Nat → Int} {t : Int}, c 0 = a 0 + t → (∀ i, i < n → c (i + 1) = a (i + 1) + c i / B) → (∀ i, i < n → o i = c i % B) → o n = c n → dv B (n + 1) o = dv B (n + 1) a + t
  | 0, a, c, o, t, h0, _, _, ho => by simp only [dv]; rw [ho, h0]; omega
  | n + 1, a, c, o, t, h0, hs, ho, hn => by
    have ih := dv_carry (B := B) (n := n) (a := fun i => a (i + 1)) (c := fun i => c (i + 1)) (o := fun i => o (i + 1)) (t := c 0 / B) (hs 0 (by omega)) (fun i hi => hs (i + 1) (by omega)) (fun i hi => ho (i + 1) (by omega)) hn
    have e1 : dv B (n + 1 + 1) o = o 0 + B * dv B (n + 1) (fun i => o (i + 1)) := rfl
    have e2 : dv B (n + 1 + 1) a = a 0 + B * dv B (n + 1) (fun i => a (i + 1)) := rfl
    rw [e1, e2, ih, ho 0 (by omega), Int.mul_add]
    have := Int.emod_add_mul_ediv (c 0) B
    omega

/-- Borrows: d is the difference at a digit with the base lent, u what is owed. -/
theorem dv_borrow {B : Int} (hB : 0 < B) : ∀ {n : Nat} {a b d u o : Nat → Int}, (∀ i, i < n → d i = a i + B - b i - u i) → (∀ i, i < n → u (i + 1) = 1 - d i / B) → (∀ i, i < n → o i = d i % B) → dv B n o = dv B n a - dv B n b - u 0 + pw B n * u n
  | 0, a, b, d, u, o, _, _, _ => by simp only [dv, pw]; omega
  | n + 1, a, b, d, u, o, hd, hu, ho => by
    have ih := dv_borrow hB (n := n) (a := fun i => a (i + 1)) (b := fun i => b (i + 1)) (d := fun i => d (i + 1)) (u := fun i => u (i + 1)) (o := fun i => o (i + 1)) (fun i hi => hd (i + 1) (by omega)) (fun i hi => hu (i + 1) (by omega)) (fun i hi => ho (i + 1) (by omega))
    simp only [dv, pw]
    rw [ih, ho 0 (by omega)]
    have h1 := Int.emod_add_mul_ediv (d 0) B
    have h2 := hd 0 (by omega)
    have h3 := hu 0 (by omega)
    rw [Nat.zero_add] at h3
    simp only [Nat.zero_add]
    have h4 : B * (dv B n (fun i => a (i + 1)) - dv B n (fun i => b (i + 1)) - u 1 + pw B n * u (n + 1)) = B * dv B n (fun i => a (i + 1)) - B * dv B n (fun i => b (i + 1)) - B * u 1 + B * pw B n * u (n + 1) := by grind
    have h5 : B * u 1 = B - B * (d 0 / B) := by rw [h3]; grind
    omega

/-- Is a below b, from the topmost digit down? -/
def ltB (a b : Nat → Int) : Nat → Bool
  | 0 => false
  | n + 1 => cond (a n != b n) (decide (a n < b n)) (ltB a b n)

theorem ltB_spec {B : Int} (hB : 0 < B) : ∀ {n : Nat} {a b : Nat → Int}, (∀ i, i < n → 0 ≤ a i ∧ a i < B) → (∀ i, i < n → 0 ≤ b i ∧ b i < B) → ltB a b n = decide (dv B n a < dv B n b)
  | 0, _, _, _, _ => by simp [ltB, dv]
  | n + 1, a, b, ha, hb => by
    have ih := ltB_spec hB (n := n) (a := a) (b := b) (fun i hi => ha i (by omega)) (fun i hi => hb i (by omega))
    obtain ⟨a0, a1⟩ := dv_bound hB (n := n) (a := a) (fun i hi => ha i (by omega))
    obtain ⟨b0, b1⟩ := dv_bound hB (n := n) (a := b) (fun i hi => hb i (by omega))
    rw [dv_top, dv_top, ltB, ih]
    have hp := pw_pos hB n
    by_cases h : a n = b n
    · rw [h]; simp
    · have hne : (a n != b n) = true := by simpa using h
      rw [hne, cond_true]
      by_cases hlt : a n < b n
      · have : pw B n * (a n + 1) ≤ pw B n * b n := Int.mul_le_mul_of_nonneg_left (by omega) (by omega)
        rw [Int.mul_add] at this
        have h2 : dv B n a + pw B n * a n < dv B n b + pw B n * b n := by omega
        simp [hlt, h2]
      · have : pw B n * (b n + 1) ≤ pw B n * a n := Int.mul_le_mul_of_nonneg_left (by omega) (by omega)
        rw [Int.mul_add] at this
        have h2 : ¬ dv B n a + pw B n * a n < dv B n b + pw B n * b n := by omega
        simp [hlt, h2]

end Go.Num

/-
  Digits of a number, bits of a digit. Plain. Conditions: none.
-/
namespace Go.Num

theorem pw_eq (B : Int) : ∀ n, pw B n = B ^ n
  | 0 => by simp [pw]
  | n + 1 => by rw [pw, pw_eq B n, Int.pow_succ, Int.mul_comm]

theorem emod_mul' {B C N : Int} (hB : 0 < B) (hC : 0 < C) : N % B + B * (N / B % C) = N % (B * C) := by
  have h1 := Int.emod_add_mul_ediv N B
  have h2 := Int.emod_add_mul_ediv (N / B) C
  have e : N = (N % B + B * (N / B % C)) + (B * C) * (N / B / C) := by
    have : B * (N / B % C + C * (N / B / C)) = B * (N / B) := by rw [h2]
    rw [Int.mul_add, ← Int.mul_assoc] at this
    omega
  have r0 := Int.emod_nonneg N (show B ≠ 0 by omega)
  have r1 := Int.emod_lt_of_pos N hB
  have s0 := Int.emod_nonneg (N / B) (show C ≠ 0 by omega)
  have s1 := Int.emod_lt_of_pos (N / B) hC
  have s2 : B * (N / B % C) + B ≤ B * C := by
    have := Int.mul_le_mul_of_nonneg_left (show N / B % C + 1 ≤ C by omega) (show 0 ≤ B by omega)
    rw [Int.mul_add] at this; omega
  have s3 := Int.mul_nonneg (show 0 ≤ B by omega) s0
  conv => rhs; rw [e]
  rw [Int.add_mul_emod_self_left]
  exact (Int.emod_eq_of_lt (by omega) (by omega)).symm

theorem pow_pos' {B : Int} (hB : 0 < B) (n : Nat) : 0 < B ^ n := by rw [← pw_eq]; exact pw_pos hB n

/-- The digits of a number. -/
theorem dv_digits {B : Int} (hB : 0 < B) : ∀ {n : Nat} {N : Int}, dv B n (fun j => N / B ^ j % B) = N % B ^ n
  | 0, N => by simp [dv, Int.emod_one]
  | n + 1, N => by
    have ih := dv_digits hB (n := n) (N := N / B)
    have e : (fun i => N / B ^ (i + 1) % B) = fun j => N / B / B ^ j % B := funext fun j => by
      rw [Int.ediv_ediv_of_nonneg (by omega), Int.pow_succ, Int.mul_comm]
    rw [dv, e, ih]
    have h1 : B ^ (n + 1) = B * B ^ n := by rw [Int.pow_succ, Int.mul_comm]
    rw [h1, Int.pow_zero, Int.ediv_one]
    exact emod_mul' hB (pow_pos' hB n)

theorem bits_sum : ∀ {m : Nat} {M : Int}, (List.range m).foldl (fun acc i => acc + M / 2 ^ i % 2 * 2 ^ i) 0 = M % 2 ^ m
  | 0, M => by simp [Int.emod_one]
  | m + 1, M => by
    rw [List.range_succ, List.foldl_append, bits_sum]
    simp only [List.foldl_cons, List.foldl_nil]
    have := emod_mul' (B := 2 ^ m) (C := 2) (N := M) (pow_pos' (by omega) m) (by omega)
    rw [Int.pow_succ, ← this, Int.mul_comm (M / 2 ^ m % 2)]

/-- A bit of a number is a bit of one of its digits. -/
theorem digit_bit {k : Nat} {a : Nat → Int} {n m r : Nat} (h : ∀ i, i < n → 0 ≤ a i ∧ a i < 2 ^ k) (hm : m < n) (hr : r < k) :
    dv (2 ^ k) n a / 2 ^ (k * m + r) % 2 = a m / 2 ^ r % 2 := by
  have hB : (0 : Int) < 2 ^ k := pow_pos' (by omega) k
  obtain ⟨l, rfl⟩ : ∃ l, n = m + (l + 1) := ⟨n - m - 1, by omega⟩
  rw [dv_split, dv]
  have hlow := dv_bound hB (n := m) (a := a) fun i hi => h i (by omega)
  rw [Int.pow_add, ← Int.ediv_ediv_of_nonneg (by exact Int.le_of_lt (pow_pos' (by omega) _))]
  have hpw : pw (2 ^ k) m = 2 ^ (k * m) := by rw [pw_eq, Int.pow_mul]
  rw [hpw] at hlow ⊢
  have e1 : (dv (2 ^ k) m a + 2 ^ (k * m) * (a (m + 0) + 2 ^ k * dv (2 ^ k) l fun i => a (m + (i + 1)))) / 2 ^ (k * m) = a m + 2 ^ k * dv (2 ^ k) l fun i => a (m + (i + 1)) := by
    rw [Int.add_mul_ediv_left _ _ (Int.ne_of_gt (pow_pos' (by omega) _)), Int.ediv_eq_zero_of_lt hlow.1 hlow.2]; simp
  rw [e1]
  obtain ⟨d, rfl⟩ : ∃ d, k = r + (d + 1) := ⟨k - r - 1, by omega⟩
  have e2 : (2 : Int) ^ (r + (d + 1)) = 2 ^ r * (2 * 2 ^ d) := by rw [Int.pow_add, Int.pow_succ, Int.mul_comm (2 ^ d)]
  rw [e2, Int.mul_assoc, Int.add_mul_ediv_left _ _ (Int.ne_of_gt (pow_pos' (by omega) _)), Int.mul_assoc, Int.add_mul_emod_self_left]

end Go.Num

/-
  Scalars as rows of bytes; the laws of halves and of the one form answer true. Conditions: none.
-/
namespace Go.Proofs.YtnoehjibponofaaDoor
open Go.Ev Go.Num
def By (n : Nat) (a : Nat → Int) : Prop := ∀ j, j < n → 0 ≤ a j ∧ a j < 256
theorem by_up {v : Int} (h0 : 0 ≤ v) (h1 : v < 256) (n : Nat) : By n (up 0 v (fun _ => 0)) := by
  intro j _
  rw [up_at]
  split
  · exact ⟨h0, h1⟩
  · exact ⟨by omega, by omega⟩
theorem by_stF (N : Int) (n : Nat) : By n (stF N) := fun j _ => by unfold stF; exact ⟨by omega, by omega⟩
theorem ld_bytes {f : Nat → Int} {a : Nat} : ∀ {k : Nat}, k ≤ 8 → (∀ j, j < k → 0 ≤ f (a + j) ∧ f (a + j) < 256) → ldR f a k = dv 256 k fun j => f (a + j)
  | 0, _, _ => rfl
  | k + 1, hk, h => by
    have ih := ld_bytes (f := f) (a := a) (k := k) (by omega) fun j hj => h j (by omega)
    have hb := dv_bound (B := 256) (by omega) (n := k) (a := fun j => f (a + j)) fun j hj => h j (by omega)
    obtain ⟨h0, h1⟩ := h k (by omega)
    have hp : (0 : Int) < 256 ^ k := Int.pow_pos (by omega)
    have hp1 : (256 : Int) ^ (k + 1) ≤ 18446744073709551616 := by
      have h1 : (256 : Nat) ^ (k + 1) ≤ 256 ^ 8 := Nat.pow_le_pow_right (by omega) hk
      have h2 : (256 : Nat) ^ 8 = 18446744073709551616 := by decide
      have h3 : ((256 ^ (k + 1) : Nat) : Int) = 256 ^ (k + 1) := by simp
      omega
    have e256 : (256 : Int) ^ k = 2 ^ (8 * k) := by rw [Int.pow_mul]; rfl
    rw [pw_eq] at hb
    rw [dv_top, pw_eq, ldR, ih]
    generalize dv 256 k (fun j => f (a + j)) = x at *
    generalize f (a + k) = y at *
    have hw : IntKind.wrap .u64 y = y := by rw [wrap_u64]; omega
    have e : (256 : Int) ^ (k + 1) = 256 ^ k * 256 := Int.pow_succ _ _
    have hm : y * 256 ^ k ≤ 255 * 256 ^ k := Int.mul_le_mul_of_nonneg_right (by omega) (by omega)
    have hn : 0 ≤ y * 256 ^ k := Int.mul_nonneg h0 (by omega)
    have hs : shlI .u64 y ((8 * k : Nat) : Int) = y * 2 ^ (8 * k) := by
      rw [shlU _ (8 * k) (by omega), ← e256, sm _ hn (by omega)]
    rw [hw, hs, or_add x y (8 * k) hb.1 (by rw [← e256]; exact hb.2) h0 (by rw [← e256]; omega), ← e256, Int.mul_comm]
theorem lvn_bytes {f : Nat → Int} : ∀ {q : Nat}, By (8 * q) f → lvn q (fun j => ldR f (8 * j) 8) = dv 256 (8 * q) f
  | 0, _ => rfl
  | q + 1, h => by
    have ih := lvn_bytes (f := f) (q := q) fun j hj => h j (by omega)
    rw [lvn, ih, ld_bytes (Nat.le_refl 8) (fun j hj => h (8 * q + j) (by omega)), show 8 * (q + 1) = 8 * q + 8 by omega, dv_split, pw_eq, Int.pow_mul, Int.mul_comm]
    rfl
theorem num_bytes {a : Nat → Int} (h : By 32 a) : num a = dv 256 32 a := by
  have := lvn_bytes (q := 4) h
  unfold num
  rw [loadO_eq]
  rw [← this]
  rfl
theorem wide_bytes {w : Nat → Int} (h : By 64 w) : lvn 8 (wideO w) = dv 256 64 w := by
  have := lvn_bytes (q := 8) h
  rw [wideO_eq, ← this]
theorem st_bytes {a : Nat → Int} (h : By 32 a) : ∀ j, j < 32 → stF (num a) j = a j := by
  have hb := dv_bound (B := 256) (by omega) h
  rw [num_bytes h]
  refine dv_inj (B := 256) (by omega) (fun i _ => by_stF _ 32 i (by omega)) h ?_
  have := dv_digits (B := 256) (by omega) (n := 32) (N := dv 256 32 a)
  rw [pw_eq] at hb
  exact this.trans (Int.emod_eq_of_lt hb.1 hb.2)
theorem shift_lo (a b : Nat → Int) : ∀ j, j < 32 → shiftF a b j = a j := by
  intro j hj
  have : j = 0 ∨ j = 1 ∨ j = 2 ∨ j = 3 ∨ j = 4 ∨ j = 5 ∨ j = 6 ∨ j = 7 ∨ j = 8 ∨ j = 9 ∨ j = 10 ∨ j = 11 ∨ j = 12 ∨ j = 13 ∨ j = 14 ∨ j = 15 ∨ j = 16 ∨ j = 17 ∨ j = 18 ∨ j = 19 ∨ j = 20 ∨ j = 21 ∨ j = 22 ∨ j = 23 ∨ j = 24 ∨ j = 25 ∨ j = 26 ∨ j = 27 ∨ j = 28 ∨ j = 29 ∨ j = 30 ∨ j = 31 := by omega
  rcases this with rfl | rfl | rfl | rfl | rfl | rfl | rfl | rfl | rfl | rfl | rfl | rfl | rfl | rfl | rfl | rfl | rfl | rfl | rfl | rfl | rfl | rfl | rfl | rfl | rfl | rfl | rfl | rfl | rfl | rfl | rfl | rfl <;> rfl
theorem shift_hi (a b : Nat → Int) : ∀ j, j < 32 → shiftF a b (32 + j) = b j := by
  intro j hj
  have : j = 0 ∨ j = 1 ∨ j = 2 ∨ j = 3 ∨ j = 4 ∨ j = 5 ∨ j = 6 ∨ j = 7 ∨ j = 8 ∨ j = 9 ∨ j = 10 ∨ j = 11 ∨ j = 12 ∨ j = 13 ∨ j = 14 ∨ j = 15 ∨ j = 16 ∨ j = 17 ∨ j = 18 ∨ j = 19 ∨ j = 20 ∨ j = 21 ∨ j = 22 ∨ j = 23 ∨ j = 24 ∨ j = 25 ∨ j = 26 ∨ j = 27 ∨ j = 28 ∨ j = 29 ∨ j = 30 ∨ j = 31 := by omega
  rcases this with rfl | rfl | rfl | rfl | rfl | rfl | rfl | rfl | rfl | rfl | rfl | rfl | rfl | rfl | rfl | rfl | rfl | rfl | rfl | rfl | rfl | rfl | rfl | rfl | rfl | rfl | rfl | rfl | rfl | rfl | rfl | rfl <;> rfl
theorem w32_lo (a : Nat → Int) : ∀ j, j < 32 → w32 a j = a j := by
  intro j hj
  have : j = 0 ∨ j = 1 ∨ j = 2 ∨ j = 3 ∨ j = 4 ∨ j = 5 ∨ j = 6 ∨ j = 7 ∨ j = 8 ∨ j = 9 ∨ j = 10 ∨ j = 11 ∨ j = 12 ∨ j = 13 ∨ j = 14 ∨ j = 15 ∨ j = 16 ∨ j = 17 ∨ j = 18 ∨ j = 19 ∨ j = 20 ∨ j = 21 ∨ j = 22 ∨ j = 23 ∨ j = 24 ∨ j = 25 ∨ j = 26 ∨ j = 27 ∨ j = 28 ∨ j = 29 ∨ j = 30 ∨ j = 31 := by omega
  rcases this with rfl | rfl | rfl | rfl | rfl | rfl | rfl | rfl | rfl | rfl | rfl | rfl | rfl | rfl | rfl | rfl | rfl | rfl | rfl | rfl | rfl | rfl | rfl | rfl | rfl | rfl | rfl | rfl | rfl | rfl | rfl | rfl <;> rfl
theorem w32_hi (a : Nat → Int) : ∀ j, j < 32 → w32 a (32 + j) = 0 := by
  intro j hj
  have : j = 0 ∨ j = 1 ∨ j = 2 ∨ j = 3 ∨ j = 4 ∨ j = 5 ∨ j = 6 ∨ j = 7 ∨ j = 8 ∨ j = 9 ∨ j = 10 ∨ j = 11 ∨ j = 12 ∨ j = 13 ∨ j = 14 ∨ j = 15 ∨ j = 16 ∨ j = 17 ∨ j = 18 ∨ j = 19 ∨ j = 20 ∨ j = 21 ∨ j = 22 ∨ j = 23 ∨ j = 24 ∨ j = 25 ∨ j = 26 ∨ j = 27 ∨ j = 28 ∨ j = 29 ∨ j = 30 ∨ j = 31 := by omega
  rcases this with rfl | rfl | rfl | rfl | rfl | rfl | rfl | rfl | rfl | rfl | rfl | rfl | rfl | rfl | rfl | rfl | rfl | rfl | rfl | rfl | rfl | rfl | rfl | rfl | rfl | rfl | rfl | rfl | rfl | rfl | rfl | rfl <;> rfl
theorem by_join {w a b : Nat → Int} (h1 : ∀ j, j < 32 → w j = a j) (h2 : ∀ j, j < 32 → w (32 + j) = b j) (ha : By 32 a) (hb : By 32 b) : By 64 w := by
  intro j hj
  by_cases h : j < 32
  · rw [h1 j h]; exact ha j h
  · rw [show j = 32 + (j - 32) by omega, h2 (j - 32) (by omega)]; exact hb (j - 32) (by omega)
def P256 : Int := 115792089237316195423570985008687907853269984665640564039457584007913129639936
theorem wide_join {w a b : Nat → Int} (h1 : ∀ j, j < 32 → w j = a j) (h2 : ∀ j, j < 32 → w (32 + j) = b j) (ha : By 32 a) (hb : By 32 b) : lvn 8 (wideO w) = num a + P256 * num b := by
  rw [wide_bytes (by_join h1 h2 ha hb), show 64 = 32 + 32 from rfl, dv_split, dv_congr h1, dv_congr h2, num_bytes ha, num_bytes hb, pw_eq]
  rfl
theorem by_zero (n : Nat) : By n (fun _ => 0) := fun _ _ => ⟨by show (0 : Int) ≤ 0; omega, by show (0 : Int) < 256; omega⟩
theorem by_wf {n : Nat} {a : Nat → Int} (h : ∀ j, j < n → (Lit.int .u8 (a j)).wf = true) : By n a := fun j hj => wf_u8 (h j hj)
theorem by_one (n : Nat) : By n oneF := by_up (by omega) (by omega) n
theorem lawHalves_true {low high : Nat → Int} (hl : By 32 low) (hh : By 32 high) : lawHalves low high = true := by
  unfold lawHalves
  refine eq_st (rdc_st _) (add_st _ _) ?_
  rw [num_rdc, num_add, num_mul, num_rdc, wide_join (shift_lo low high) (shift_hi low high) hl hh, wide_join (shift_lo _ _) (shift_hi _ _) (by_zero 32) (by_one 32), num_zero, num_one, ea, ← ea (num high * _), mb, ea]
  rw [Int.zero_add, Int.mul_one, Int.add_comm, Int.mul_comm]
/-! ### One form -/
theorem ordB_by : By 32 ordB := by
  intro j hj
  have : j = 0 ∨ j = 1 ∨ j = 2 ∨ j = 3 ∨ j = 4 ∨ j = 5 ∨ j = 6 ∨ j = 7 ∨ j = 8 ∨ j = 9 ∨ j = 10 ∨ j = 11 ∨ j = 12 ∨ j = 13 ∨ j = 14 ∨ j = 15 ∨ j = 16 ∨ j = 17 ∨ j = 18 ∨ j = 19 ∨ j = 20 ∨ j = 21 ∨ j = 22 ∨ j = 23 ∨ j = 24 ∨ j = 25 ∨ j = 26 ∨ j = 27 ∨ j = 28 ∨ j = 29 ∨ j = 30 ∨ j = 31 := by omega
  rcases this with rfl | rfl | rfl | rfl | rfl | rfl | rfl | rfl | rfl | rfl | rfl | rfl | rfl | rfl | rfl | rfl | rfl | rfl | rfl | rfl | rfl | rfl | rfl | rfl | rfl | rfl | rfl | rfl | rfl | rfl | rfl | rfl <;> exact ⟨by decide, by decide⟩
theorem ordB_v : num ordB = LL := by rw [num_bytes ordB_by]; decide
theorem rem256 {x : Int} (h : 0 ≤ x) : remI x 256 = x % 256 := by unfold remI; rw [Int.tmod_eq_emod_of_nonneg h]
theorem quo256 {x : Int} (h : 0 ≤ x) (h1 : x < 65536) : quoI .i64 x 256 = x / 256 := by
  unfold quoI
  rw [Int.tdiv_eq_ediv_of_nonneg h, wrap_i64 _ (by omega)]
theorem ab_round {a o : Nat → Int} (ha : By 32 a) (ho : By 32 o) {k : Nat} (hk : k < 32) {c : Int} (h0 : 0 ≤ c) (h1 : c ≤ 1) :
    addI .i64 (addI .i64 (IntKind.wrap .i64 (a k)) (IntKind.wrap .i64 (o k))) c = a k + o k + c := by
  have x := ha k hk; have y := ho k hk
  unfold addI
  rw [wrap_i64 (a k) (by omega), wrap_i64 (o k) (by omega), wrap_i64 (a k + o k) (by omega), wrap_i64 _ (by omega)]
theorem ab_v {a o : Nat → Int} (ha : By 32 a) (ho : By 32 o) : ∀ k, k ≤ 32 →
    0 ≤ abK a o k ∧ abK a o k ≤ 1 ∧ By k (abF a o k) ∧ dv 256 k (abF a o k) + pw 256 k * abK a o k = dv 256 k a + dv 256 k o
  | 0, _ => ⟨by simp [abK], by simp [abK], fun j hj => by omega, by simp [dv, abK]⟩
  | k + 1, hk => by
    obtain ⟨h0, h1, h2, h3⟩ := ab_v ha ho k (by omega)
    have hr := ab_round ha ho (k := k) (by omega) h0 h1
    have x := ha k (by omega); have y := ho k (by omega)
    simp only [abK, abF, hr]
    rw [rem256 (by omega), quo256 (by omega) (by omega)]
    have hw : IntKind.wrap .u8 ((a k + o k + abK a o k) % 256) = (a k + o k + abK a o k) % 256 := by rw [wrap_u8]; omega
    rw [hw]
    generalize abK a o k = c at *
    refine ⟨by omega, by omega, fun j hj => ?_, ?_⟩
    · rw [up_at]
      split
      · exact ⟨by omega, by omega⟩
      · exact h2 j (by omega)
    · rw [dv_top, dv_top, dv_top, up_at, if_pos rfl, dv_congr (b := abF a o k) fun i hi => by rw [up_at, if_neg (by omega)]]
      rw [pw]
      have e : pw 256 k * ((a k + o k + c) % 256) + 256 * pw 256 k * ((a k + o k + c) / 256) = pw 256 k * (a k + o k + c) := by
        have := Int.emod_add_mul_ediv (a k + o k + c) 256
        generalize (a k + o k + c) / 256 = q at *
        generalize (a k + o k + c) % 256 = r at *
        rw [← this, Int.mul_add, Int.mul_comm 256 (pw 256 k), Int.mul_assoc]
      rw [Int.mul_add, Int.mul_add] at e
      omega
theorem lawOneForm_true {a : Nat → Int} (ha : By 32 a) : lawOneForm a = true := by
  have hw : lvn 8 (wideO (w32 a)) = num a := by rw [wide_join (w32_lo a) (w32_hi a) ha (by_zero 32), num_zero]; omega
  have hr : num (rdcO (w32 a)) = num a % LL := by rw [num_rdc, hw]
  have e1 : eqN 32 (rdcO (w32 a)) (addO a fun _ => 0) = true := eq_st (rdc_st _) (add_st _ _) (by rw [hr, num_add, num_zero, Int.add_zero])
  have e2 : canO (rdcO (w32 a)) = true := can_mod _ hr
  have e3 : canO ordB = false := by rw [can_iff, ordB_v]; exact decide_eq_false (by omega)
  have e4 : (canO a == eqN 32 (rdcO (w32 a)) a) = true := by
    rw [can_iff, beq_iff_eq, Bool.eq_iff_iff, decide_eq_true_iff]
    constructor
    · intro h
      refine eqN_mk fun j hj => ?_
      rw [rdc_st, hr, Int.emod_eq_of_lt (num_nn a).1 h]
      exact st_bytes ha j hj
    · intro h
      have := num_congr (eqN_at h)
      rw [hr] at this
      have := (mod_nn (num a)).2
      omega
  have e5 : abBO a ordB = true → canO (abFO a ordB) = false ∧ eqN 32 (addO (abFO a ordB) fun _ => 0) (rdcO (w32 a)) = true := by
    intro hb
    obtain ⟨h0, h1, h2, h3⟩ := ab_v ha ordB_by 32 (Nat.le_refl _)
    rw [abBO_eq] at hb
    rw [beq_iff_eq] at hb
    have hn : num (abFO a ordB) = num a + LL := by
      rw [abFO_eq]
      dsimp only
      rw [num_bytes h2, num_bytes ha, ← ordB_v, num_bytes ordB_by]
      rw [hb] at h3
      omega
    refine ⟨?_, eq_st (add_st _ _) (rdc_st _) ?_⟩
    · rw [can_iff, hn]
      have := (num_nn a).1
      exact decide_eq_false (by omega)
    · rw [num_add, num_zero, hr, hn, Int.add_zero, Int.add_emod_right]
  simp only [lawOneForm, e1, e2, e3, e4, Bool.not_true, cond_false]
  cases hb : abBO a ordB with
  | false => rfl
  | true => simp only [e5 hb, Bool.not_true, Bool.not_false, cond_true, cond_false]
end Go.Proofs.YtnoehjibponofaaDoor

/-
  p is a prime number; the small theorem of Fermat. Plain numbers, no program. Conditions: none.
-/
namespace Go.Num

/-- A prime number. -/
def Pr (n : Nat) : Prop := 2 ≤ n ∧ ∀ m, m ∣ n → m = 1 ∨ m = n

theorem Pr.coprime {q m : Nat} (hq : Pr q) (h : ¬ q ∣ m) : Nat.Coprime q m := by
  have h1 := hq.2 _ (Nat.gcd_dvd_left q m)
  rcases h1 with h1 | h1
  · exact h1
  · exact absurd (h1 ▸ Nat.gcd_dvd_right q m) h
theorem Pr.dvd_mul {q a b : Nat} (hq : Pr q) (h : q ∣ a * b) : q ∣ a ∨ q ∣ b := by
  by_cases ha : q ∣ a
  · exact .inl ha
  · exact .inr ((hq.coprime ha).dvd_of_dvd_mul_left h)

/-- A prime factor that is the number itself, or whose square is not above it. -/
theorem factor : ∀ n, 2 ≤ n → Pr n ∨ ∃ r, Pr r ∧ r ∣ n ∧ r * r ≤ n := by
  intro n
  induction n using Nat.strongRecOn with
  | _ n ih =>
    intro hn
    by_cases h : ∃ m, m ∣ n ∧ m ≠ 1 ∧ m ≠ n
    · obtain ⟨m, ⟨k, rfl⟩, h1, h2⟩ := h
      refine .inr ?_
      have hm0 : m ≠ 0 := by rintro rfl; simp at hn
      have hk0 : k ≠ 0 := by rintro rfl; simp at hn
      have hk1 : k ≠ 1 := by rintro rfl; simp at h2
      have key : ∀ a b, 2 ≤ a → 2 ≤ b → a ≤ b → a * b = m * k → ∃ r, Pr r ∧ r ∣ m * k ∧ r * r ≤ m * k := by
        intro a b ha hb hab he
        have hlt : a < m * k := by rw [← he]; exact Nat.lt_of_lt_of_le (by omega) (Nat.mul_le_mul_left a hb)
        have haa : a * a ≤ m * k := by rw [← he]; exact Nat.mul_le_mul_left a hab
        rcases ih a hlt ha with hp | ⟨r, hr, hd, hrr⟩
        · exact ⟨a, hp, ⟨b, he.symm⟩, haa⟩
        · exact ⟨r, hr, Nat.dvd_trans hd ⟨b, he.symm⟩, Nat.le_trans hrr (Nat.le_of_lt hlt)⟩
      rcases Nat.le_total m k with hle | hle
      · exact key m k (by omega) (by omega) hle rfl
      · exact key k m (by omega) (by omega) hle (Nat.mul_comm k m)
    · refine .inl ⟨hn, fun m hm => ?_⟩
      apply Classical.byContradiction
      intro hne
      exact h ⟨m, hm, fun e => hne (.inl e), fun e => hne (.inr e)⟩

/-! ### Fermat -/

/-- Choosing k of n. -/
def ch : Nat → Nat → Nat
  | _, 0 => 1
  | 0, _ + 1 => 0
  | n + 1, k + 1 => ch n k + ch n (k + 1)
theorem ch_gt : ∀ n k, n < k → ch n k = 0
  | 0, k + 1, _ => rfl
  | n + 1, k + 1, h => by rw [ch, ch_gt n k (by omega), ch_gt n (k + 1) (by omega)]
theorem ch_self : ∀ n, ch n n = 1
  | 0 => rfl
  | n + 1 => by rw [ch, ch_self n, ch_gt n (n + 1) (by omega)]
theorem ch_mul : ∀ n k, (k + 1) * ch (n + 1) (k + 1) = (n + 1) * ch n k
  | 0, 0 => rfl
  | 0, k + 1 => by rw [ch_gt 1 (k + 2) (by omega), ch_gt 0 (k + 1) (by omega)]; simp
  | n + 1, 0 => by
    have h := ch_mul n 0
    have h2 : ch (n + 1 + 1) (0 + 1) = ch (n + 1) 0 + ch (n + 1) (0 + 1) := rfl
    rw [h2]
    simp only [ch] at h ⊢
    omega
  | n + 1, k + 1 => by
    have h1 := ch_mul n k
    have h2 := ch_mul n (k + 1)
    rw [show ch (n + 1 + 1) (k + 1 + 1) = ch (n + 1) (k + 1) + ch (n + 1) (k + 1 + 1) from rfl]
    have h3 : ch (n + 1) (k + 1) = ch n k + ch n (k + 1) := rfl
    grind

theorem prime_ch {q : Nat} (hq : Pr q) {k : Nat} (h0 : 0 < k) (h1 : k < q) : q ∣ ch q k := by
  obtain ⟨k, rfl⟩ : ∃ j, k = j + 1 := ⟨k - 1, by omega⟩
  obtain ⟨n, rfl⟩ : ∃ j, q = j + 1 := ⟨q - 1, by omega⟩
  have h := ch_mul n k
  have hd : n + 1 ∣ (k + 1) * ch (n + 1) (k + 1) := ⟨ch n k, h⟩
  rcases hq.dvd_mul hd with h | h
  · exact absurd (Nat.le_of_dvd (by omega) h) (by omega)
  · exact h

/-- The sum of the first m terms of (a + 1)^n. -/
def bs (a n : Nat) : Nat → Nat
  | 0 => 0
  | m + 1 => bs a n m + ch n m * a ^ m
theorem bs_step (a n : Nat) : ∀ m, bs a (n + 1) (m + 1) = bs a n (m + 1) + a * bs a n m
  | 0 => by simp [bs, ch]
  | m + 1 => by
    have h := bs_step a n m
    rw [bs, h]
    rw [show bs a n (m + 1 + 1) = bs a n (m + 1) + ch n (m + 1) * a ^ (m + 1) from rfl]
    rw [show bs a n (m + 1) = bs a n m + ch n m * a ^ m from rfl]
    rw [show ch (n + 1) (m + 1) = ch n m + ch n (m + 1) from rfl, Nat.pow_succ]
    grind
theorem binomial (a : Nat) : ∀ n, (a + 1) ^ n = bs a n (n + 1)
  | 0 => by simp [bs, ch]
  | n + 1 => by
    rw [bs_step, Nat.pow_succ, binomial a n]
    rw [show bs a n (n + 1 + 1) = bs a n (n + 1) + ch n (n + 1) * a ^ (n + 1) from rfl, ch_gt n (n + 1) (by omega)]
    grind
theorem bs_mod {q : Nat} (hq : Pr q) (a : Nat) : ∀ m, m < q → bs a q (m + 1) % q = 1 % q
  | 0, _ => by simp [bs, ch]
  | m + 1, h => by
    rw [bs, Nat.add_mod, bs_mod hq a m (by omega)]
    obtain ⟨c, hc⟩ := prime_ch hq (k := m + 1) (by omega) h
    rw [hc, Nat.mul_assoc, Nat.mul_mod_right]
    simp
theorem fermat {q : Nat} (hq : Pr q) : ∀ a, a ^ q % q = a % q
  | 0 => by rw [Nat.zero_pow (by have := hq.1; omega)]
  | a + 1 => by
    have h2 := hq.1
    rw [binomial, bs, ch_self, Nat.one_mul, Nat.add_mod, fermat hq a]
    obtain ⟨m, hm⟩ : ∃ m, q = m + 1 := ⟨q - 1, by omega⟩
    have h := bs_mod hq a m (by omega)
    rw [← hm] at h
    rw [h, ← Nat.add_mod, Nat.add_comm]
theorem fermat1 {q : Nat} (hq : Pr q) {a : Nat} (h : ¬ q ∣ a) : a ^ (q - 1) % q = 1 % q := by
  have h2 := hq.1
  have h1 := fermat hq a
  obtain ⟨m, rfl⟩ : ∃ m, q = m + 1 := ⟨q - 1, by omega⟩
  rw [Nat.pow_succ] at h1
  simp only [Nat.add_sub_cancel]
  have hd : ((m + 1 : Nat) : Int) ∣ (a : Int) * ((a : Int) ^ m - 1) := by
    have : (((a ^ m * a : Nat) : Int) - (a : Int)) % ((m + 1 : Nat) : Int) = 0 := by
      have e : ((a ^ m * a : Nat) : Int) % ((m + 1 : Nat) : Int) = (a : Int) % ((m + 1 : Nat) : Int) := by exact_mod_cast h1
      rw [Int.sub_emod, e]; simp
    have e2 : (a : Int) * ((a : Int) ^ m - 1) = ((a ^ m * a : Nat) : Int) - (a : Int) := by push_cast; grind
    rw [e2]
    exact Int.dvd_of_emod_eq_zero this
  by_cases ha : a = 0
  · subst ha; exact absurd ⟨0, rfl⟩ h
  have h1 : 1 ≤ a ^ m := Nat.pow_pos (by omega)
  have hd2 : (m + 1) ∣ a * (a ^ m - 1) := by
    have : ((a * (a ^ m - 1) : Nat) : Int) = (a : Int) * ((a : Int) ^ m - 1) := by push_cast [h1]; rfl
    rw [← this] at hd
    exact_mod_cast hd
  have hd3 := (hq.coprime h).dvd_of_dvd_mul_left hd2
  obtain ⟨c, hc⟩ := hd3
  have : a ^ m = (m + 1) * c + 1 := by omega
  rw [this, Nat.add_comm, Nat.add_mul_mod_self_left]

theorem fermat_int {q : Nat} (hq : Pr q) {X : Int} (hx : X % q ≠ 0) : X ^ (q - 1) % q = 1 := by
  have h2 := hq.1
  obtain ⟨a, ha⟩ : ∃ a : Nat, X % q = (a : Int) := Int.eq_ofNat_of_zero_le (Int.emod_nonneg _ (by omega))
  have hn : ¬ q ∣ a := by
    rintro ⟨c, rfl⟩
    apply hx
    have h : X % q % q = 0 := by rw [ha]; push_cast; exact Int.mul_emod_right _ _
    rwa [Int.emod_emod_of_dvd _ (Int.dvd_refl _)] at h
  have h := fermat1 hq hn
  have h1 : ∀ n : Nat, (X % q) ^ n % q = X ^ n % q := by
    intro n
    induction n with
    | zero => simp
    | succ n ih => rw [Int.pow_succ, Int.pow_succ, Int.mul_emod, ih, Int.emod_emod_of_dvd _ (Int.dvd_refl _), ← Int.mul_emod]
  rw [← h1, ha]
  generalize q - 1 = m at *
  rw [Nat.mod_eq_of_lt (show 1 < q by omega)] at h
  exact_mod_cast h

/-! ### Powers modulo n, fast; a number all of whose prime factors are large -/

def pm (n : Nat) : Nat → Nat → Nat → Nat
  | 0, _, _ => 1 % n
  | fuel + 1, a, e => if e = 0 then 1 % n else if e % 2 = 0 then pm n fuel (a * a % n) (e / 2) else a * pm n fuel (a * a % n) (e / 2) % n
theorem pm_eq (n : Nat) : ∀ fuel a e, e < 2 ^ fuel → pm n fuel a e = a ^ e % n
  | 0, a, e, h => by
    obtain rfl : e = 0 := by simpa using h
    simp [pm]
  | fuel + 1, a, e, h => by
    unfold pm
    have hlt : e / 2 < 2 ^ fuel := by rw [Nat.pow_succ] at h; omega
    have ih := pm_eq n fuel (a * a % n) (e / 2) hlt
    have e1 : (a * a % n) ^ (e / 2) % n = (a * a) ^ (e / 2) % n := (Nat.pow_mod (a * a) (e / 2) n).symm
    have e2 : (a * a) ^ (e / 2) = a ^ (2 * (e / 2)) := by rw [Nat.pow_mul, Nat.pow_two]
    rw [ih, e1, e2]
    by_cases h0 : e = 0
    · subst h0; simp
    · rw [if_neg h0]
      by_cases hm : e % 2 = 0
      · rw [if_pos hm, show 2 * (e / 2) = e by omega]
      · rw [if_neg hm]
        have : e = 2 * (e / 2) + 1 := by omega
        conv => rhs; rw [this, Nat.pow_succ, Nat.mul_comm]
        rw [Nat.mul_mod, Nat.mod_mod, ← Nat.mul_mod]

theorem pow_gcd {r g : Nat} (hr : 1 < r) : ∀ a b, g ^ a % r = 1 → g ^ b % r = 1 → g ^ (Nat.gcd a b) % r = 1 := by
  intro a b
  induction a, b using Nat.gcd.induction with
  | H0 b => intro _ h; rw [Nat.gcd_zero_left]; exact h
  | H1 a b ha ih =>
    intro h1 h2
    rw [Nat.gcd_rec]
    refine ih ?_ h1
    have e : b = a * (b / a) + b % a := (Nat.div_add_mod b a).symm
    rw [e, Nat.pow_add, Nat.pow_mul, Nat.mul_mod, Nat.pow_mod, h1, Nat.one_pow, Nat.mod_eq_of_lt hr, Nat.one_mul, Nat.mod_mod] at h2
    exact h2

/-- Pocklington: n - 1 = q R, q a prime; g^(n - 1) is 1, and g^R - 1 has no factor in common with n; no factor 1 + k q below the root. -/
theorem pock {n q R g K : Nat} (hn : 2 ≤ n) (hq : Pr q) (hnq : n - 1 = q * R) (h1 : g ^ (n - 1) % n = 1) (h2 : Nat.gcd ((g ^ R % n + n - 1) % n) n = 1)
    (hK : n < (1 + (K + 1) * q) * (1 + (K + 1) * q)) (hk : ∀ k, k < K → n % (1 + (k + 1) * q) ≠ 0) : Pr n := by
  rcases factor n hn with h | ⟨r, hr, hd, hrr⟩
  · exact h
  exfalso
  have hr2 := hr.1
  have h1r : g ^ (n - 1) % r = 1 := by
    have : g ^ (n - 1) % n % r = 1 % r := by rw [h1]
    rw [Nat.mod_mod_of_dvd _ hd, Nat.mod_eq_of_lt (show 1 < r by omega)] at this
    exact this
  have hg : ¬ r ∣ g := by
    rintro ⟨c, rfl⟩
    obtain ⟨m, hm⟩ : ∃ m, n - 1 = m + 1 := ⟨n - 2, by omega⟩
    rw [hm, Nat.pow_succ, Nat.mul_comm, Nat.mul_assoc, Nat.mul_mod_right] at h1r
    omega
  have h2r := fermat1 hr hg
  rw [Nat.mod_eq_of_lt (show 1 < r by omega)] at h2r
  have hgcd := pow_gcd (by omega) _ _ h1r h2r
  by_cases hqr : q ∣ r - 1
  · obtain ⟨c, hc⟩ := hqr
    have hc0 : c ≠ 0 := by rintro rfl; omega
    have hrc : r = 1 + (c - 1 + 1) * q := by
      rw [show c - 1 + 1 = c by omega, Nat.mul_comm]; omega
    by_cases hcK : c - 1 < K
    · have := hk (c - 1) hcK
      rw [← hrc] at this
      exact this (Nat.mod_eq_zero_of_dvd hd)
    · have hle : 1 + (K + 1) * q ≤ r := by
        rw [hrc]
        have := Nat.mul_le_mul_right q (show K + 1 ≤ c - 1 + 1 by omega)
        omega
      have := Nat.mul_le_mul hle hle
      omega
  · have hcop := hq.coprime hqr
    have hgR : Nat.gcd (n - 1) (r - 1) ∣ R := by
      rw [hnq]
      have hc2 : Nat.Coprime (Nat.gcd (q * R) (r - 1)) q := by
        have h := Nat.gcd_dvd_right (q * R) (r - 1)
        exact (Nat.Coprime.coprime_dvd_right h hcop).symm
      exact hc2.dvd_of_dvd_mul_left (Nat.gcd_dvd_left _ _)
    obtain ⟨c, hc⟩ := hgR
    have hR : g ^ R % r = 1 := by
      rw [hc, Nat.pow_mul, Nat.pow_mod, hgcd, Nat.one_pow, Nat.mod_eq_of_lt (show 1 < r by omega)]
    have hdr : r ∣ (g ^ R % n + n - 1) % n := by
      have e1 : (g ^ R % n + n - 1) % n % r = (g ^ R % n + n - 1) % r := Nat.mod_mod_of_dvd _ hd
      have e2 : g ^ R % n % r = 1 := by rw [Nat.mod_mod_of_dvd _ hd, hR]
      obtain ⟨d, hd'⟩ := hd
      refine Nat.dvd_of_mod_eq_zero ?_
      rw [e1]
      have e3 : g ^ R % n = r * (g ^ R % n / r) + 1 := by
        have := Nat.div_add_mod (g ^ R % n) r
        omega
      have e4 : g ^ R % n + n - 1 = r * (g ^ R % n / r + d) := by
        rw [Nat.mul_add, ← hd']; omega
      rw [e4, Nat.mul_mod_right]
    have := Nat.dvd_gcd hdr hd
    rw [h2] at this
    have := Nat.le_of_dvd (by omega) this
    omega

theorem trial {n : Nat} (hn : 2 ≤ n) {K : Nat} (hK : n < (K + 2) * (K + 2)) (h : ∀ k, k < K → n % (k + 2) ≠ 0) : Pr n := by
  rcases factor n hn with h' | ⟨r, hr, hd, hrr⟩
  · exact h'
  exfalso
  have h2 := hr.1
  by_cases hlt : r - 2 < K
  · have := h (r - 2) hlt
    rw [show r - 2 + 2 = r by omega] at this
    exact this (Nat.mod_eq_zero_of_dvd hd)
  · have := Nat.mul_le_mul (show K + 2 ≤ r by omega) (show K + 2 ≤ r by omega)
    omega

theorem pock' {n q R g K : Nat} (hn : 2 ≤ n) (hb : n < 2 ^ 256) (hq : Pr q) (hnq : n - 1 = q * R) (h1 : pm n 256 g (n - 1) = 1) (h2 : Nat.gcd ((pm n 256 g R + n - 1) % n) n = 1)
    (hK : n < (1 + (K + 1) * q) * (1 + (K + 1) * q)) (hk : ∀ k, k < K → n % (1 + (k + 1) * q) ≠ 0) : Pr n := by
  have hq2 := hq.1
  have hR : R ≤ n - 1 := by rw [hnq]; exact Nat.le_mul_of_pos_left R (by omega)
  rw [pm_eq _ _ _ _ (Nat.lt_of_le_of_lt (Nat.sub_le n 1) hb)] at h1
  rw [pm_eq _ _ _ _ (Nat.lt_of_le_of_lt hR (Nat.lt_of_le_of_lt (Nat.sub_le n 1) hb))] at h2
  exact pock hn hq hnq h1 h2 hK hk

theorem pr991 : Pr 991 := trial (K := 30) (by decide) (by decide) (by decide)
theorem pr1 : Pr 8574133 := pock' (q := 991) (R := 8652) (g := 2) (K := 2) (by decide) (by decide) pr991 (by decide) (by decide +kernel) (by decide +kernel) (by decide) (by decide)
theorem pr2 : Pr 1919519569386763 := pock' (q := 8574133) (R := 223873314) (g := 2) (K := 5) (by decide) (by decide) pr1 (by decide) (by decide +kernel) (by decide +kernel) (by decide) (by decide)
theorem pr3 : Pr 75445702479781427272750846543864801 := pock' (q := 1919519569386763) (R := 39304471641247389600) (g := 2) (K := 143) (by decide) (by decide) pr2 (by decide) (by decide +kernel) (by decide +kernel) (by decide) (by decide +kernel)
theorem pr4 : Pr 74058212732561358302231226437062788676166966415465897661863160754340907 := pock' (q := 75445702479781427272750846543864801) (R := 981609426360740691344999861639072106) (g := 2) (K := 3) (by decide) (by decide) pr3 (by decide) (by decide +kernel) (by decide +kernel) (by decide) (by decide)
/-- 2^255 - 19 is a prime number. -/
theorem prP : Pr 57896044618658097711785492504343953926634992332820282019728792003956564819949 := pock' (q := 74058212732561358302231226437062788676166966415465897661863160754340907) (R := 781764) (g := 2) (K := 0) (by decide) (by decide) pr4 (by decide) (by decide +kernel) (by decide +kernel) (by decide) (by decide)
end Go.Num

/-
  Invert, as a number: a power. Conditions: none.
-/
namespace Go.Proofs.YtnoehjibponofaaDoor
open Go.Ev Go.Num
theorem inv_h (o a : Nat → Int) (N : Nat) (R : V) : awp Tryd.prog p35 noG N (body Tryd.f31) (ends Tryd.prog Tryd.f31 fun v _ => okV R v) ⟨[(V.ints .u8 32 a)] ++ List.replicate 39 V.un, [(V.tup [V.fn 2, (V.ints .u64 4 o)])]⟩ = (gB (eqN 4 o ordF) (mB (eqN 4 (redO 4 (loadO a)) (fun _ => 0)) (okV R (V.tup [(V.ints .u8 32 (fun _ => 0)), (V.bool false)])) (lp (awp Tryd.prog p35 noG N (loopOf (body Tryd.f31))) (spineQ Tryd.prog p35 noG N (body Tryd.f31) (ends Tryd.prog Tryd.f31 fun v _ => okV R v)) N ⟨[(V.ints .u8 32 a), (V.ptr 1 0), (V.ptr 2 0), (V.bool false), (V.ptr 3 0), (V.int .u64 (bcO o (up 0 2 (fun _ => 0)))), (V.ptr 4 0), (V.int .i64 255), (V.ints .u8 32 a), (V.ints .u64 4 (redO 4 (loadO a))), (V.ints .u64 4 (fun _ => 0)), (V.bool (eqN 4 (redO 4 (loadO a)) (fun _ => 0))), V.un, (V.tup [(V.ints .u64 4 (minusO o (up 0 2 (fun _ => 0)))), (V.int .u64 (bcO o (up 0 2 (fun _ => 0))))]), (V.ints .u64 4 o), (V.ints .u64 4 (up 0 2 (fun _ => 0))), (V.tup [(V.ints .u64 4 (minusO o (up 0 2 (fun _ => 0)))), (V.int .u64 (bcO o (up 0 2 (fun _ => 0))))]), (V.ints .u64 4 (minusO o (up 0 2 (fun _ => 0)))), (V.int .u64 (bcO o (up 0 2 (fun _ => 0)))), (V.ints .u8 32 (up 0 1 (fun _ => 0))), V.un, V.un, V.un, V.un, V.un, V.un, V.un, V.un, V.un, V.un, V.un, V.un, V.un, V.un, V.un, V.un, V.un, V.un, V.un, V.un], [(V.tup [V.fn 2, (V.ints .u64 4 o)]), (V.ints .u8 32 a), (V.ints .u8 32 (fun _ => 0)), (V.ints .u64 4 (minusO o (up 0 2 (fun _ => 0)))), (V.ints .u8 32 (up 0 1 (fun _ => 0)))]⟩))) := by kernel_rfl
theorem inv_s (o a : Nat → Int) (i : Int) (q : Nat → Int) (t20 t21 t22 t23 t24 t25 t26 t27 t28 t29 t30 t31 t32 t33 t34 t35 t36 t37 t38 : V) (Q : Exit → St → Prop) (m : Nat) : lp (awp Tryd.prog p35 noG 300 (loopOf (body Tryd.f31))) Q (m + 1) ⟨[(V.ints .u8 32 a), (V.ptr 1 0), (V.ptr 2 0), (V.bool false), (V.ptr 3 0), (V.int .u64 (bcO o (up 0 2 (fun _ => 0)))), (V.ptr 4 0), (V.int .i64 i), (V.ints .u8 32 a), (V.ints .u64 4 (redO 4 (loadO a))), (V.ints .u64 4 (fun _ => 0)), (V.bool (eqN 4 (redO 4 (loadO a)) (fun _ => 0))), V.un, (V.tup [(V.ints .u64 4 (minusO o (up 0 2 (fun _ => 0)))), (V.int .u64 (bcO o (up 0 2 (fun _ => 0))))]), (V.ints .u64 4 o), (V.ints .u64 4 (up 0 2 (fun _ => 0))), (V.tup [(V.ints .u64 4 (minusO o (up 0 2 (fun _ => 0)))), (V.int .u64 (bcO o (up 0 2 (fun _ => 0))))]), (V.ints .u64 4 (minusO o (up 0 2 (fun _ => 0)))), (V.int .u64 (bcO o (up 0 2 (fun _ => 0)))), (V.ints .u8 32 (up 0 1 (fun _ => 0))), t20, t21, t22, t23, t24, t25, t26, t27, t28, t29, t30, t31, t32, t33, t34, t35, t36, t37, t38, V.un], [(V.tup [V.fn 2, (V.ints .u64 4 o)]), (V.ints .u8 32 a), (V.ints .u8 32 (fun _ => 0)), (V.ints .u64 4 (minusO o (up 0 2 (fun _ => 0)))), (V.ints .u8 32 q)]⟩ = (mB (decide (i ≥ 0)) (gB (eqN 4 o ordF) (gB (decide (0 ≤ (quoI .i64 i 64) ∧ (quoI .i64 i 64) < 4)) (gB (Nat.blt (0 + (Int.toNat (quoI .i64 i 64) * 1)) 4) (gB (decide (0 ≤ (remI i 64))) (mB ((andI .u64 (shrI .u64 ((minusO o (up 0 2 (fun _ => 0))) (0 + (Int.toNat (quoI .i64 i 64) * 1))) (remI i 64)) 1) == 1) (gB (eqN 4 o ordF) (lp (awp Tryd.prog p35 noG 300 (loopOf (body Tryd.f31))) Q m ⟨[(V.ints .u8 32 a), (V.ptr 1 0), (V.ptr 2 0), (V.bool false), (V.ptr 3 0), (V.int .u64 (bcO o (up 0 2 (fun _ => 0)))), (V.ptr 4 0), (V.int .i64 (subI .i64 i 1)), (V.ints .u8 32 a), (V.ints .u64 4 (redO 4 (loadO a))), (V.ints .u64 4 (fun _ => 0)), (V.bool (eqN 4 (redO 4 (loadO a)) (fun _ => 0))), V.un, (V.tup [(V.ints .u64 4 (minusO o (up 0 2 (fun _ => 0)))), (V.int .u64 (bcO o (up 0 2 (fun _ => 0))))]), (V.ints .u64 4 o), (V.ints .u64 4 (up 0 2 (fun _ => 0))), (V.tup [(V.ints .u64 4 (minusO o (up 0 2 (fun _ => 0)))), (V.int .u64 (bcO o (up 0 2 (fun _ => 0))))]), (V.ints .u64 4 (minusO o (up 0 2 (fun _ => 0)))), (V.int .u64 (bcO o (up 0 2 (fun _ => 0)))), (V.ints .u8 32 (up 0 1 (fun _ => 0))), (V.int .i64 i), (V.bool (decide (i ≥ 0))), (V.int .i64 i), (V.int .i64 (subI .i64 i 1)), (V.ints .u8 32 q), (V.ints .u8 32 q), (V.ints .u8 32 (mulO q q)), (V.int .i64 i), (V.int .i64 (quoI .i64 i 64)), (V.ptr 3 (0 + (Int.toNat (quoI .i64 i 64) * 1))), (V.int .u64 ((minusO o (up 0 2 (fun _ => 0))) (0 + (Int.toNat (quoI .i64 i 64) * 1)))), (V.int .i64 i), (V.int .i64 (remI i 64)), (V.int .u64 (shrI .u64 ((minusO o (up 0 2 (fun _ => 0))) (0 + (Int.toNat (quoI .i64 i 64) * 1))) (remI i 64))), (V.int .u64 (andI .u64 (shrI .u64 ((minusO o (up 0 2 (fun _ => 0))) (0 + (Int.toNat (quoI .i64 i 64) * 1))) (remI i 64)) 1)), (V.bool ((andI .u64 (shrI .u64 ((minusO o (up 0 2 (fun _ => 0))) (0 + (Int.toNat (quoI .i64 i 64) * 1))) (remI i 64)) 1) == 1)), (V.ints .u8 32 (mulO q q)), (V.ints .u8 32 a), (V.ints .u8 32 (mulO (mulO q q) a)), V.un], [(V.tup [V.fn 2, (V.ints .u64 4 o)]), (V.ints .u8 32 a), (V.ints .u8 32 (fun _ => 0)), (V.ints .u64 4 (minusO o (up 0 2 (fun _ => 0)))), (V.ints .u8 32 (mulO (mulO q q) a))]⟩)) (lp (awp Tryd.prog p35 noG 300 (loopOf (body Tryd.f31))) Q m ⟨[(V.ints .u8 32 a), (V.ptr 1 0), (V.ptr 2 0), (V.bool false), (V.ptr 3 0), (V.int .u64 (bcO o (up 0 2 (fun _ => 0)))), (V.ptr 4 0), (V.int .i64 (subI .i64 i 1)), (V.ints .u8 32 a), (V.ints .u64 4 (redO 4 (loadO a))), (V.ints .u64 4 (fun _ => 0)), (V.bool (eqN 4 (redO 4 (loadO a)) (fun _ => 0))), V.un, (V.tup [(V.ints .u64 4 (minusO o (up 0 2 (fun _ => 0)))), (V.int .u64 (bcO o (up 0 2 (fun _ => 0))))]), (V.ints .u64 4 o), (V.ints .u64 4 (up 0 2 (fun _ => 0))), (V.tup [(V.ints .u64 4 (minusO o (up 0 2 (fun _ => 0)))), (V.int .u64 (bcO o (up 0 2 (fun _ => 0))))]), (V.ints .u64 4 (minusO o (up 0 2 (fun _ => 0)))), (V.int .u64 (bcO o (up 0 2 (fun _ => 0)))), (V.ints .u8 32 (up 0 1 (fun _ => 0))), (V.int .i64 i), (V.bool (decide (i ≥ 0))), (V.int .i64 i), (V.int .i64 (subI .i64 i 1)), (V.ints .u8 32 q), (V.ints .u8 32 q), (V.ints .u8 32 (mulO q q)), (V.int .i64 i), (V.int .i64 (quoI .i64 i 64)), (V.ptr 3 (0 + (Int.toNat (quoI .i64 i 64) * 1))), (V.int .u64 ((minusO o (up 0 2 (fun _ => 0))) (0 + (Int.toNat (quoI .i64 i 64) * 1)))), (V.int .i64 i), (V.int .i64 (remI i 64)), (V.int .u64 (shrI .u64 ((minusO o (up 0 2 (fun _ => 0))) (0 + (Int.toNat (quoI .i64 i 64) * 1))) (remI i 64))), (V.int .u64 (andI .u64 (shrI .u64 ((minusO o (up 0 2 (fun _ => 0))) (0 + (Int.toNat (quoI .i64 i 64) * 1))) (remI i 64)) 1)), (V.bool ((andI .u64 (shrI .u64 ((minusO o (up 0 2 (fun _ => 0))) (0 + (Int.toNat (quoI .i64 i 64) * 1))) (remI i 64)) 1) == 1)), t36, t37, t38, V.un], [(V.tup [V.fn 2, (V.ints .u64 4 o)]), (V.ints .u8 32 a), (V.ints .u8 32 (fun _ => 0)), (V.ints .u64 4 (minusO o (up 0 2 (fun _ => 0)))), (V.ints .u8 32 (mulO q q))]⟩)))))) (Q (.exit 0) ⟨[(V.ints .u8 32 a), (V.ptr 1 0), (V.ptr 2 0), (V.bool false), (V.ptr 3 0), (V.int .u64 (bcO o (up 0 2 (fun _ => 0)))), (V.ptr 4 0), (V.int .i64 i), (V.ints .u8 32 a), (V.ints .u64 4 (redO 4 (loadO a))), (V.ints .u64 4 (fun _ => 0)), (V.bool (eqN 4 (redO 4 (loadO a)) (fun _ => 0))), V.un, (V.tup [(V.ints .u64 4 (minusO o (up 0 2 (fun _ => 0)))), (V.int .u64 (bcO o (up 0 2 (fun _ => 0))))]), (V.ints .u64 4 o), (V.ints .u64 4 (up 0 2 (fun _ => 0))), (V.tup [(V.ints .u64 4 (minusO o (up 0 2 (fun _ => 0)))), (V.int .u64 (bcO o (up 0 2 (fun _ => 0))))]), (V.ints .u64 4 (minusO o (up 0 2 (fun _ => 0)))), (V.int .u64 (bcO o (up 0 2 (fun _ => 0)))), (V.ints .u8 32 (up 0 1 (fun _ => 0))), (V.int .i64 i), (V.bool (decide (i ≥ 0))), t22, t23, t24, t25, t26, t27, t28, t29, t30, t31, t32, t33, t34, t35, t36, t37, t38, V.un], [(V.tup [V.fn 2, (V.ints .u64 4 o)]), (V.ints .u8 32 a), (V.ints .u8 32 (fun _ => 0)), (V.ints .u64 4 (minusO o (up 0 2 (fun _ => 0)))), (V.ints .u8 32 q)]⟩)) := by kernel_rfl
theorem inv_x (o a : Nat → Int) (i : Int) (q : Nat → Int) (t20 t21 t22 t23 t24 t25 t26 t27 t28 t29 t30 t31 t32 t33 t34 t35 t36 t37 t38 : V) (R : V) : spineQ Tryd.prog p35 noG 300 (body Tryd.f31) (ends Tryd.prog Tryd.f31 fun v _ => okV R v) (.exit 0) ⟨[(V.ints .u8 32 a), (V.ptr 1 0), (V.ptr 2 0), (V.bool false), (V.ptr 3 0), (V.int .u64 (bcO o (up 0 2 (fun _ => 0)))), (V.ptr 4 0), (V.int .i64 i), (V.ints .u8 32 a), (V.ints .u64 4 (redO 4 (loadO a))), (V.ints .u64 4 (fun _ => 0)), (V.bool (eqN 4 (redO 4 (loadO a)) (fun _ => 0))), V.un, (V.tup [(V.ints .u64 4 (minusO o (up 0 2 (fun _ => 0)))), (V.int .u64 (bcO o (up 0 2 (fun _ => 0))))]), (V.ints .u64 4 o), (V.ints .u64 4 (up 0 2 (fun _ => 0))), (V.tup [(V.ints .u64 4 (minusO o (up 0 2 (fun _ => 0)))), (V.int .u64 (bcO o (up 0 2 (fun _ => 0))))]), (V.ints .u64 4 (minusO o (up 0 2 (fun _ => 0)))), (V.int .u64 (bcO o (up 0 2 (fun _ => 0)))), (V.ints .u8 32 (up 0 1 (fun _ => 0))), t20, t21, t22, t23, t24, t25, t26, t27, t28, t29, t30, t31, t32, t33, t34, t35, t36, t37, t38, V.un], [(V.tup [V.fn 2, (V.ints .u64 4 o)]), (V.ints .u8 32 a), (V.ints .u8 32 (fun _ => 0)), (V.ints .u64 4 (minusO o (up 0 2 (fun _ => 0)))), (V.ints .u8 32 q)]⟩ = (okV R (V.tup [(V.ints .u8 32 q), (V.bool true)])) := by kernel_rfl
def EE : Int := 7237005577332262213973186563042994240857116359379907606001950938285454250987
def two4 : Nat → Int := up 0 2 (fun _ => 0)
theorem pw_v {o : Nat → Int} (ho : eqN 4 o ordF = true) : ∀ j, j < 4 → minusO o (up 0 2 (fun _ => 0)) j = wF EE j := by
  obtain ⟨o1, o2⟩ := eq_ord ho
  have t1 : u4 (up 0 2 (fun _ => 0)) = true := by decide
  have t2 : lv4 (up 0 2 (fun _ => 0)) = 2 := by decide
  have h1 := (minus_v o1 t1).2
  have h2 := (minus_ge o1 t1 (by rw [o2, t2]; omega)).1
  rw [o2, t2] at h2
  rw [minusO_eq]
  have := words_at h1
  rw [h2] at this
  exact this
theorem inv_bit {o : Nat → Int} (ho : eqN 4 o ordF = true) {i : Nat} (hi : i < 256) : andI .u64 (shrI .u64 (minusO o (up 0 2 (fun _ => 0)) (0 + (Int.toNat (quoI .i64 (i : Int) 64) * 1))) (remI (i : Int) 64)) 1 = EE / 2 ^ i % 2 := by
  rw [show quoI .i64 (i : Int) 64 = ((i / 64 : Nat) : Int) from quo_nat i 64 (by omega), show remI (i : Int) 64 = ((i % 64 : Nat) : Int) from rem_nat i 64]
  simp only [Int.toNat_natCast, Nat.mul_one, Nat.zero_add]
  rw [pw_v ho _ (by omega), and1, shrU _ _ (by omega)]
  have := digit_bit (k := 64) (a := wF EE) (n := 4) (m := i / 64) (r := i % 64) (fun j _ => by unfold wF; simp only [Int.reducePow]; omega) (by omega) (by omega)
  rw [Nat.div_add_mod] at this
  rw [← this]
  have e := dv_digits (B := 18446744073709551616) (by omega) (n := 4) (N := EE)
  have e2 : dv (2 ^ 64) 4 (wF EE) = EE := by
    show dv 18446744073709551616 4 (fun j => EE / 18446744073709551616 ^ j % 18446744073709551616) = EE
    rw [e]; decide
  rw [e2]
/-- The power, bit by bit from the highest on: behind k rounds. -/
noncomputable def invR (a : Nat → Int) : Nat → Nat → Int
  | 0 => up 0 1 (fun _ => 0)
  | k + 1 => cond (EE / 2 ^ (255 - k) % 2 == 1) (mulO (mulO (invR a k) (invR a k)) a) (mulO (invR a k) (invR a k))
theorem pow_mod (x : Int) (n : Nat) : (x ^ n % LL) = (x % LL) ^ n % LL := by
  induction n with
  | zero => simp
  | succ n ih => rw [Int.pow_succ, Int.pow_succ, Int.mul_emod, ih, Int.mul_emod ((x % LL) ^ n), Int.emod_emod_of_dvd x (Int.dvd_refl LL)]
theorem exp_step {E : Int} (h0 : 0 ≤ E) (i : Nat) : (E / 2 ^ i).toNat = 2 * (E / 2 ^ (i + 1)).toNat + (E / 2 ^ i % 2).toNat := by
  have h1 : E / 2 ^ (i + 1) = E / 2 ^ i / 2 := by rw [Int.pow_succ, Int.ediv_ediv_of_nonneg (Int.le_of_lt (pow_pos' (by omega) i))]
  have h2 : 0 ≤ E / 2 ^ i := Int.ediv_nonneg h0 (Int.le_of_lt (pow_pos' (by omega) i))
  rw [h1]; omega
theorem invR_v (a : Nat → Int) : ∀ k, k ≤ 256 → num (invR a k) = num a ^ (EE / 2 ^ (256 - k)).toNat % LL
  | 0, _ => by
    show num (up 0 1 (fun _ => 0)) = _
    rw [show num (up 0 1 (fun _ => 0)) = 1 from num_up (by omega) (by omega), show Int.toNat (EE / (2 : Int) ^ (256 - 0)) = 0 by decide, Int.pow_zero]
    decide
  | k + 1, hk => by
    have ih := invR_v a k (by omega)
    have hs := exp_step (E := EE) (by decide) (255 - k)
    rw [show 255 - k + 1 = 256 - k by omega] at hs
    rw [show 256 - (k + 1) = 255 - k by omega]
    have hsq : num (mulO (invR a k) (invR a k)) = num a ^ (2 * (EE / 2 ^ (256 - k)).toNat) % LL := by
      rw [num_mul, ih, ma, mb, ← Int.pow_add]
      congr 2
      omega
    have ht : EE / 2 ^ (255 - k) % 2 = 0 ∨ EE / 2 ^ (255 - k) % 2 = 1 := by omega
    simp only [invR]
    rcases ht with ht | ht
    · rw [ht] at hs ⊢
      rw [show ((0 : Int) == 1) = false from rfl, cond_false, hsq, hs]; rfl
    · rw [ht] at hs ⊢
      rw [show ((1 : Int) == 1) = true from rfl, cond_true, num_mul, hsq, ma, hs, ← Int.pow_succ]; rfl
noncomputable def invO : (Nat → Int) → Nat → Int := Classical.choose (hide_ex fun a => stF (num a ^ EE.toNat % LL))
theorem invO_eq : invO = fun a => stF (num a ^ EE.toNat % LL) := Classical.choose_spec (hide_ex fun a => stF (num a ^ EE.toNat % LL))
noncomputable def invB : (Nat → Int) → Bool := Classical.choose (hide_ex fun a => !(num a % LL == 0))
theorem invB_eq : invB = fun a => !(num a % LL == 0) := Classical.choose_spec (hide_ex fun a => !(num a % LL == 0))
theorem invR_st (a : Nat → Int) (k : Nat) : invR a (k + 1) = stF (num (invR a (k + 1))) := by
  simp only [invR]
  cases (EE / 2 ^ (255 - k) % 2 == 1)
  · exact mul_st _ _
  · exact mul_st _ _
theorem inv_last (a : Nat → Int) : invR a 256 = invO a := by
  have h := invR_v a 256 (Nat.le_refl _)
  rw [Nat.sub_self, Int.pow_zero, Int.ediv_one] at h
  have : invR a 256 = stF (num (invR a 256)) := invR_st a 255
  rw [this, h, invO_eq]
theorem red_zero (a : Nat → Int) : (eqN 4 (redO 4 (loadO a)) (fun _ => 0)) = (num a % LL == 0) := by
  have h : lv4 (redO 4 (loadO a)) = num a % LL := red_lv _ _
  rw [Bool.eq_iff_iff, beq_iff_eq]
  constructor
  · intro e
    have := lv4_congr (eqN_at e)
    rw [h] at this
    rw [this]; decide
  · intro e
    refine eqN_mk fun j hj => ?_
    rw [red_n j hj]
    have : lvn 4 (loadO a) % LL = 0 := e
    rw [this]
    have : j = 0 ∨ j = 1 ∨ j = 2 ∨ j = 3 := by omega
    rcases this with rfl | rfl | rfl | rfl <;> decide
theorem inv_l {o a : Nat → Int} (ho : eqN 4 o ordF = true) (hb : invB a = true) : ∀ (k m : Nat), k ≤ 256 → k + 1 ≤ m → ∀ (t20 t21 t22 t23 t24 t25 t26 t27 t28 t29 t30 t31 t32 t33 t34 t35 t36 t37 t38 : V),
    lp (awp Tryd.prog p35 noG 300 (loopOf (body Tryd.f31))) (spineQ Tryd.prog p35 noG 300 (body Tryd.f31) (ends Tryd.prog Tryd.f31 fun v _ => okV (V.tup [V.ints .u8 32 (invO a), V.bool (invB a)]) v)) m ⟨[(V.ints .u8 32 a), (V.ptr 1 0), (V.ptr 2 0), (V.bool false), (V.ptr 3 0), (V.int .u64 (bcO o (up 0 2 (fun _ => 0)))), (V.ptr 4 0), (V.int .i64 ((k : Int) - 1)), (V.ints .u8 32 a), (V.ints .u64 4 (redO 4 (loadO a))), (V.ints .u64 4 (fun _ => 0)), (V.bool (eqN 4 (redO 4 (loadO a)) (fun _ => 0))), V.un, (V.tup [(V.ints .u64 4 (minusO o (up 0 2 (fun _ => 0)))), (V.int .u64 (bcO o (up 0 2 (fun _ => 0))))]), (V.ints .u64 4 o), (V.ints .u64 4 (up 0 2 (fun _ => 0))), (V.tup [(V.ints .u64 4 (minusO o (up 0 2 (fun _ => 0)))), (V.int .u64 (bcO o (up 0 2 (fun _ => 0))))]), (V.ints .u64 4 (minusO o (up 0 2 (fun _ => 0)))), (V.int .u64 (bcO o (up 0 2 (fun _ => 0)))), (V.ints .u8 32 (up 0 1 (fun _ => 0))), t20, t21, t22, t23, t24, t25, t26, t27, t28, t29, t30, t31, t32, t33, t34, t35, t36, t37, t38, V.un], [(V.tup [V.fn 2, (V.ints .u64 4 o)]), (V.ints .u8 32 a), (V.ints .u8 32 (fun _ => 0)), (V.ints .u64 4 (minusO o (up 0 2 (fun _ => 0)))), (V.ints .u8 32 (invR a (256 - k)))]⟩
  | 0, m, _, hm, t20, t21, t22, t23, t24, t25, t26, t27, t28, t29, t30, t31, t32, t33, t34, t35, t36, t37, t38 => by
    obtain ⟨m, rfl⟩ : ∃ z, m = z + 1 := ⟨m - 1, by omega⟩
    rw [inv_s]
    refine mBt (fun h => absurd (of_decide_eq_true h) (by omega)) (fun _ => ?_)
    rw [inv_x, inv_last, hb]
    exact okV_refl rfl
  | k + 1, m, hk, hm, t20, t21, t22, t23, t24, t25, t26, t27, t28, t29, t30, t31, t32, t33, t34, t35, t36, t37, t38 => by
    obtain ⟨m, rfl⟩ : ∃ z, m = z + 1 := ⟨m - 1, by omega⟩
    have e1 : (((k + 1 : Nat) : Int) - 1) = (k : Int) := by omega
    rw [e1, inv_s]
    have hq : quoI .i64 (k : Int) 64 = ((k / 64 : Nat) : Int) := quo_nat k 64 (by omega)
    have hr : remI (k : Int) 64 = ((k % 64 : Nat) : Int) := rem_nat k 64
    have g1 : decide (0 ≤ quoI .i64 (k : Int) 64 ∧ quoI .i64 (k : Int) 64 < 4) = true := by rw [hq]; exact decide_eq_true (by omega)
    have g2 : Nat.blt (0 + (Int.toNat (quoI .i64 (k : Int) 64) * 1)) 4 = true := by rw [hq, Int.toNat_natCast]; exact bltT.2 (by omega)
    have g3 : decide (0 ≤ remI (k : Int) 64) = true := by rw [hr]; exact decide_eq_true (by omega)
    have hnx : subI .i64 (k : Int) 1 = (k : Int) - 1 := sub1_nat k (by omega)
    refine mBt (fun _ => ?_) (fun h => absurd (of_decide_eq_false h) (by omega))
    have hsub : 256 - k = 256 - (k + 1) + 1 := by omega
    have hsub2 : 255 - (256 - (k + 1)) = k := by omega
    refine gm ho (gm g1 (gm g2 (gm g3 (mBt (fun h => gm ho ?_) (fun h => ?_)))))
    · rw [hnx]
      rw [inv_bit ho (show k < 256 by omega)] at h
      have hi : invR a (256 - k) = mulO (mulO (invR a (256 - (k + 1))) (invR a (256 - (k + 1)))) a := by
        rw [hsub]
        simp only [invR, hsub2, h, cond_true]
      rw [← hi]
      exact inv_l ho hb k m (by omega) (by omega) _ _ _ _ _ _ _ _ _ _ _ _ _ _ _ _ _ _ _
    · rw [hnx]
      rw [inv_bit ho (show k < 256 by omega)] at h
      have hi : invR a (256 - k) = mulO (invR a (256 - (k + 1))) (invR a (256 - (k + 1))) := by
        rw [hsub]
        simp only [invR, hsub2, h, cond_false]
      rw [← hi]
      exact inv_l ho hb k m (by omega) (by omega) _ _ _ _ _ _ _ _ _ _ _ _ _ _ _ _ _ _ _
theorem inv_a {o a : Nat → Int} (ho : eqN 4 o ordF = true) : awp Tryd.prog p35 noG 300 (body Tryd.f31) (ends Tryd.prog Tryd.f31 fun v _ => okV (V.tup [V.ints .u8 32 (invO a), V.bool (invB a)]) v) ⟨[V.ints .u8 32 a] ++ List.replicate 39 V.un, [V.tup [V.fn 2, V.ints .u64 4 o]]⟩ := by
  rw [inv_h]
  refine gm ho (mBt (fun h => ?_) (fun h => ?_))
  · rw [red_zero] at h
    have h1 : invB a = false := by rw [invB_eq]; simp only [h, Bool.not_true]
    have h2 : invO a = fun _ => 0 := by
      rw [invO_eq]
      dsimp only
      rw [pow_mod, beq_iff_eq.1 h]
      funext j
      rw [show ((0 : Int) ^ EE.toNat % LL) = 0 by rw [Int.zero_pow (by decide)]; rfl]
      unfold stF; simp
    rw [h1, h2]
    exact okV_refl rfl
  · rw [red_zero] at h
    have h1 : invB a = true := by rw [invB_eq]; simp only [h, Bool.not_false]
    have := inv_l ho h1 256 300 (Nat.le_refl _) (by omega) V.un V.un V.un V.un V.un V.un V.un V.un V.un V.un V.un V.un V.un V.un V.un V.un V.un V.un V.un
    rw [show (((256 : Nat) : Int) - 1) = 255 by decide, Nat.sub_self] at this
    exact this
noncomputable def g31 : List V → List V → Option (Bool × V) := fun vs m => match views [2] vs m with
  | some ([.ints .u8 32 a], [.tup [.fn 2, .ints .u64 4 o]]) => some (eqN 4 o ordF, .tup [.ints .u8 32 (invO a), .bool (invB a)])
  | _ => none
theorem g31_ok (vs m : List V) (v : V) (h : g31 vs m = some (true, v)) : v.flat = true ∧ ∀ μ B w0 w, Under B w0 → Rel μ B w0 m w → PureAt Tryd.prog 31 (vs.map (V.den μ)).toArray (v.den μ) w := by
  unfold g31 at h
  split at h
  · rename_i a o hv
    simp only [Option.some.injEq, Prod.mk.injEq] at h
    obtain ⟨h1, rfl⟩ := h
    refine ⟨rfl, ?_⟩
    exact reads_ok (fn := Tryd.f31) (N := 300) (n := 39) hM p35_ok (noG_ok _) Tryd.func31 (by kernel_rfl) (by kernel_rfl) hv rfl (inv_a h1) (by kernel_rfl)
  · cases h
theorem g31_grow (vs m : List V) (z : V) (r : Bool × V) (h : g31 vs m = some r) : g31 vs (m ++ [z]) = some r := by
  unfold g31 at h ⊢
  cases hv : views [2] vs m with
  | none => rw [hv] at h; cases h
  | some p => rw [hv] at h; rw [views_grow hv]; exact h
noncomputable def p31 : Orc := extM 31 g31 p35
theorem p31_ok : OrcOK Tryd.prog p31 := extM_ok p35_ok g31_ok g31_grow
noncomputable def lawField (a : (Nat → Int)) (b : (Nat → Int)) : Bool := (cond (!((invB a) == (!(eqN 32 (addO a (fun _ => 0)) (fun _ => 0))))) false (cond (!(invB a)) (eqN 32 (invO a) (fun _ => 0)) (cond (invB (invO a)) (cond (canO (invO a)) (cond (eqN 32 (mulO a (invO a)) oneF) (cond (eqN 32 (invO (invO a)) (addO a (fun _ => 0))) (eqN 32 (mulO (mulO b a) (invO a)) (addO b (fun _ => 0))) false) false) false) false)))
theorem lawField_t (a : (Nat → Int)) (b : (Nat → Int)) : awp Tryd.prog p31 noG 300 (body Tryd.f12) (ends Tryd.prog Tryd.f12 fun v _ => okV (V.bool (lawField a b)) v) ⟨[(V.ints .u8 32 a), (V.ints .u8 32 b)] ++ List.replicate 64 V.un, [(V.tup [V.fn 2, (V.ints .u64 4 ordF)]), (V.tup [V.fn 0, (V.ints .u8 32 oneF)]), (V.tup [V.fn 3, (V.ints .u8 32 twoF)])]⟩ = (mB (!((invB a) == (!(eqN 32 (addO a (fun _ => 0)) (fun _ => 0))))) ((V.bool false).den z0 = (V.bool (lawField a b)).den z0) (mB (!(invB a)) ((V.bool (eqN 32 (invO a) (fun _ => 0))).den z0 = (V.bool (lawField a b)).den z0) (mB (invB (invO a)) (mB (canO (invO a)) (mB (eqN 32 (mulO a (invO a)) oneF) (mB (eqN 32 (invO (invO a)) (addO a (fun _ => 0))) ((V.bool (eqN 32 (mulO (mulO b a) (invO a)) (addO b (fun _ => 0)))).den z0 = (V.bool (lawField a b)).den z0) ((V.bool false).den z0 = (V.bool (lawField a b)).den z0)) ((V.bool false).den z0 = (V.bool (lawField a b)).den z0)) ((V.bool false).den z0 = (V.bool (lawField a b)).den z0)) ((V.bool false).den z0 = (V.bool (lawField a b)).den z0)))) := by kernel_rfl
theorem lawField_a (a : (Nat → Int)) (b : (Nat → Int)) : awp Tryd.prog p31 noG 300 (body Tryd.f12) (ends Tryd.prog Tryd.f12 fun v _ => okV (V.bool (lawField a b)) v) ⟨[(V.ints .u8 32 a), (V.ints .u8 32 b)] ++ List.replicate 64 V.un, [(V.tup [V.fn 2, (V.ints .u64 4 ordF)]), (V.tup [V.fn 0, (V.ints .u8 32 oneF)]), (V.tup [V.fn 3, (V.ints .u8 32 twoF)])]⟩ := by
  rw [lawField_t]
  refine mBt (fun h1 => ?_) (fun h1 => ?_)
  · simp only [lawField, h1, cond_true]
  · refine mBt (fun h2 => ?_) (fun h2 => ?_)
    · simp only [lawField, h1, h2, cond_true, cond_false]
    · refine mBt (fun h3 => ?_) (fun h3 => ?_)
      · refine mBt (fun h4 => ?_) (fun h4 => ?_)
        · refine mBt (fun h5 => ?_) (fun h5 => ?_)
          · refine mBt (fun h6 => ?_) (fun h6 => ?_)
            · simp only [lawField, h1, h2, h3, h4, h5, h6, cond_true, cond_false]
            · simp only [lawField, h1, h2, h3, h4, h5, h6, cond_true, cond_false]
          · simp only [lawField, h1, h2, h3, h4, h5, cond_true, cond_false]
        · simp only [lawField, h1, h2, h3, h4, cond_true, cond_false]
      · simp only [lawField, h1, h2, h3, cond_false]
end Go.Proofs.YtnoehjibponofaaDoor

/-
  L is a prime number; the law of the field answers true. Conditions: none.
-/
namespace Go.Num
theorem pl1 : Pr 2551 := trial (K := 50) (by decide) (by decide) (by decide +kernel)
theorem pl2 : Pr 1224481 := pock' (q := 2551) (R := 480) (g := 2) (K := 0) (by decide) (by decide) pl1 (by decide) (by decide +kernel) (by decide +kernel) (by decide) (by decide)
theorem pl3 : Pr 1257559732178653 := pock' (q := 1224481) (R := 1027014492) (g := 2) (K := 28) (by decide) (by decide) pl2 (by decide) (by decide +kernel) (by decide +kernel) (by decide) (by decide +kernel)
theorem pl4 : Pr 4434155615661930479 := pock' (q := 1257559732178653) (R := 3526) (g := 2) (K := 0) (by decide) (by decide) pl3 (by decide) (by decide +kernel) (by decide +kernel) (by decide) (by decide)
theorem pl5 : Pr 172054593956031949258510691 := pock' (q := 4434155615661930479) (R := 38802110) (g := 2) (K := 0) (by decide) (by decide) pl4 (by decide) (by decide +kernel) (by decide +kernel) (by decide) (by decide)
theorem pl6 : Pr 19757330305831588566944191468367130476339 := pock' (q := 172054593956031949258510691) (R := 114831751082918) (g := 2) (K := 0) (by decide) (by decide) pl5 (by decide) (by decide +kernel) (by decide +kernel) (by decide) (by decide)
theorem pl7 : Pr 276602624281642239937218680557139826668747 := pock' (q := 19757330305831588566944191468367130476339) (R := 14) (g := 2) (K := 0) (by decide) (by decide) pl6 (by decide) (by decide +kernel) (by decide +kernel) (by decide) (by decide)
theorem prL : Pr 7237005577332262213973186563042994240857116359379907606001950938285454250989 := pock' (q := 276602624281642239937218680557139826668747) (R := 26163907866482859529727157400808004) (g := 2) (K := 0) (by decide) (by decide) pl7 (by decide) (by decide +kernel) (by decide +kernel) (by decide) (by decide)
end Go.Num
namespace Go.Proofs.YtnoehjibponofaaDoor
open Go.Ev Go.Num
theorem ferL {X : Int} (hx : X % LL ≠ 0) : X ^ (EE.toNat + 1) % LL = 1 := by
  have h := fermat_int prL (X := X) (by
    have : ((7237005577332262213973186563042994240857116359379907606001950938285454250989 : Nat) : Int) = LL := rfl
    rw [this]; exact hx)
  exact h
theorem num_inv (a : Nat → Int) : num (invO a) = num a ^ EE.toNat % LL := by rw [invO_eq]; exact num_mod _
theorem inv_st (a : Nat → Int) : invO a = stF (num (invO a)) := by rw [num_inv, invO_eq]
theorem inv_mul {a : Nat → Int} (h : num a % LL ≠ 0) : (num a * num (invO a)) % LL = 1 := by
  rw [num_inv, mb, Int.mul_comm, ← Int.pow_succ]
  exact ferL h
theorem inv_nz {a : Nat → Int} (h : num a % LL ≠ 0) : num (invO a) % LL ≠ 0 := by
  intro e
  have h1 := inv_mul h
  rw [← mb, e, Int.mul_zero] at h1
  exact absurd h1 (by decide)
theorem inv_inv {a : Nat → Int} (h : num a % LL ≠ 0) : num (invO (invO a)) % LL = num a % LL := by
  have h1 := inv_mul h
  have h2 := inv_mul (inv_nz h)
  generalize num (invO (invO a)) = z at *
  generalize num (invO a) = y at *
  generalize num a = x at *
  have e1 : (z * (x * y)) % LL = z % LL := by rw [← mb, h1, Int.mul_one]
  have e2 : (x * (y * z)) % LL = x % LL := by rw [← mb, h2, Int.mul_one]
  rw [← e1, ← e2]
  congr 1
  rw [Int.mul_comm z, Int.mul_assoc]
theorem add0 (a : Nat → Int) : num (addO a fun _ => 0) = num a % LL := by rw [num_add, num_zero, Int.add_zero]
theorem lawField_true (a b : Nat → Int) : lawField a b = true := by
  have e0 : (eqN 32 (addO a fun _ => 0) fun _ => 0) = (num a % LL == 0) := by
    rw [Bool.eq_iff_iff, beq_iff_eq]
    constructor
    · intro e
      have := num_congr (eqN_at e)
      rwa [add0, num_zero] at this
    · intro e
      exact eq_st (add_st _ _) zero_st (by rw [add0, num_zero, e])
  have e1 : (invB a == !(eqN 32 (addO a fun _ => 0) fun _ => 0)) = true := by rw [e0, invB_eq]; simp
  by_cases h : num a % LL = 0
  · have hb : invB a = false := by rw [invB_eq]; simp [h]
    have e2 : eqN 32 (invO a) (fun _ => 0) = true := eq_st (inv_st _) zero_st (by
      rw [num_inv, pow_mod, h, num_zero, Int.zero_pow (by decide)]; rfl)
    unfold lawField
    rw [e1]
    simp only [e2, hb, Bool.not_true, Bool.not_false, cond_true, cond_false]
  · have hb : invB a = true := by rw [invB_eq]; simp [h]
    have hb2 : invB (invO a) = true := by rw [invB_eq]; simp [inv_nz h]
    have e3 : canO (invO a) = true := can_mod _ (num_inv a)
    have e4 : eqN 32 (mulO a (invO a)) oneF = true := eq_st (mul_st _ _) (by rw [num_one]; funext j; exact (st_small (by omega) (by omega) j).symm) (by rw [num_mul, inv_mul h, num_one])
    have e5 : eqN 32 (invO (invO a)) (addO a fun _ => 0) = true := eq_st (inv_st _) (add_st _ _) (by
      rw [add0, ← inv_inv h, num_inv, mm])
    have e6 : eqN 32 (mulO (mulO b a) (invO a)) (addO b fun _ => 0) = true := eq_st (mul_st _ _) (add_st _ _) (by
      rw [add0, num_mul, num_mul, ma, Int.mul_assoc, ← mb, inv_mul h, Int.mul_one])
    unfold lawField
    rw [e1]
    simp only [e3, e4, e5, e6, hb, hb2, Bool.not_true, cond_true, cond_false]
end Go.Proofs.YtnoehjibponofaaDoor
