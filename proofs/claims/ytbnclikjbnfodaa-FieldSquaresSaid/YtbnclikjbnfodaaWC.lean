/-
  The document's Least: a number of ten digits of any size, brought below p. Conditions: none.
-/
import Derived.Test.YtbnclikjbnfodaaWB
import Derived.Test.YtbnclikjbnfodaaMA
namespace Go.Proofs.Ytbnclikjbnfodaa
open Go.Ev

def rFold (a : Nat → Int) : Nat → Int := rCarried (up 9 (andI .u64 (a 9) 2097151) (up 0 (addI .u64 (a 0) (mulI .u64 19 (shrI .u64 (a 9) 21))) a))
def rFin (a : Nat → Int) : Nat → Int := cond (!(rBelow a rPrime)) (rLess a rPrime) a
def rLeast (x : Nat → Int) : Nat → Int :=
  cond (decide ((rCarried x) 9 > 2097151))
    (cond (decide ((rFold (rCarried x)) 9 > 2097151)) (rFin (rFold (rFold (rCarried x)))) (rFin (rFold (rCarried x))))
    (rFin (rCarried x))

theorem carried_at (a : Nat → Int) : ∀ j, j < 9 → 0 ≤ rCarried a j ∧ rCarried a j < 67108864 := by
  intro j hj
  have key : ∀ x : Int, 0 ≤ andI .u64 x 67108863 ∧ andI .u64 x 67108863 < 67108864 := fun x => by rw [and26]; omega
  have h : j = 0 ∨ j = 1 ∨ j = 2 ∨ j = 3 ∨ j = 4 ∨ j = 5 ∨ j = 6 ∨ j = 7 ∨ j = 8 := by omega
  rcases h with rfl | rfl | rfl | rfl | rfl | rfl | rfl | rfl | rfl <;> exact key _

/-- The chain of carries, one by one. -/
def cc (a : Nat → Int) : Nat → Int
  | 0 => a 0
  | n + 1 => addI .u64 (a (n + 1)) (shrI .u64 (cc a n) 26)

theorem carried_cc (a : Nat → Int) (j : Nat) (hj : j < 9) : rCarried a j = andI .u64 (cc a j) 67108863 := by
  have h : j = 0 ∨ j = 1 ∨ j = 2 ∨ j = 3 ∨ j = 4 ∨ j = 5 ∨ j = 6 ∨ j = 7 ∨ j = 8 := by omega
  rcases h with rfl | rfl | rfl | rfl | rfl | rfl | rfl | rfl | rfl <;> rfl
theorem carried_top (a : Nat → Int) : rCarried a 9 = cc a 9 := rfl

theorem carried9 (a : Nat → Int) : 0 ≤ rCarried a 9 ∧ rCarried a 9 < 18446744073709551616 := by
  rw [carried_top]; simp only [cc, addU]; omega

/-- A fold of carried digits: the topmost is at most one above its bound; of digits whose topmost is one above it, it is small. -/
theorem fold_small (a : Nat → Int) (h : ∀ j, j < 9 → 0 ≤ a j ∧ a j < 67108864) (h9 : 0 ≤ a 9 ∧ a 9 < 18446744073709551616) :
    rFold a 9 ≤ a 9 % 2097152 + 1 ∧ (∀ j, j < 9 → 0 ≤ rFold a j ∧ rFold a j < 67108864) ∧ 0 ≤ rFold a 9 := by
  refine ⟨?_, carried_at _, (carried9 _).1⟩
  have e : rFold a 9 = addI .u64 (andI .u64 (a 9) 2097151) (shrI .u64 (addI .u64 (a 8) (shrI .u64 (addI .u64 (a 7) (shrI .u64 (addI .u64 (a 6) (shrI .u64 (addI .u64 (a 5) (shrI .u64 (addI .u64 (a 4) (shrI .u64 (addI .u64 (a 3) (shrI .u64 (addI .u64 (a 2) (shrI .u64 (addI .u64 (a 1) (shrI .u64 (addI .u64 (a 0) (mulI .u64 19 (shrI .u64 (a 9) 21))) 26)) 26)) 26)) 26)) 26)) 26)) 26)) 26)) 26) := by kernel_rfl
  rw [e]
  simp only [addU, mulU, shr21, shr26, and21]
  have b0 := h 0 (by omega)
  have b1 := h 1 (by omega)
  have b2 := h 2 (by omega)
  have b3 := h 3 (by omega)
  have b4 := h 4 (by omega)
  have b5 := h 5 (by omega)
  have b6 := h 6 (by omega)
  have b7 := h 7 (by omega)
  have b8 := h 8 (by omega)
  generalize a 0 = a0 at *
  generalize a 1 = a1 at *
  generalize a 2 = a2 at *
  generalize a 3 = a3 at *
  generalize a 4 = a4 at *
  generalize a 5 = a5 at *
  generalize a 6 = a6 at *
  generalize a 7 = a7 at *
  generalize a 8 = a8 at *
  generalize a 9 = a9 at *
  have sm : ∀ x : Int, 0 ≤ x → x < 18446744073709551616 → x % 18446744073709551616 = x := fun x h0 h1 => Int.emod_eq_of_lt h0 h1
  have q9 : 0 ≤ a9 / 2097152 ∧ a9 / 2097152 ≤ 8796093022207 := by omega
  generalize a9 / 2097152 = q at *
  rw [sm (19 * q) (by omega) (by omega), sm (a0 + 19 * q) (by omega) (by omega)]
  have e0 : 0 ≤ (a0 + 19 * q) / 67108864 ∧ (a0 + 19 * q) / 67108864 ≤ 2490369 := by omega
  generalize (a0 + 19 * q) / 67108864 = d0 at *
  rw [sm (a1 + d0) (by omega) (by omega)]
  have e1 : 0 ≤ (a1 + d0) / 67108864 ∧ (a1 + d0) / 67108864 ≤ 1 := by omega
  generalize (a1 + d0) / 67108864 = d1 at *
  rw [sm (a2 + d1) (by omega) (by omega)]
  have e2 : 0 ≤ (a2 + d1) / 67108864 ∧ (a2 + d1) / 67108864 ≤ 1 := by omega
  generalize (a2 + d1) / 67108864 = d2 at *
  rw [sm (a3 + d2) (by omega) (by omega)]
  have e3 : 0 ≤ (a3 + d2) / 67108864 ∧ (a3 + d2) / 67108864 ≤ 1 := by omega
  generalize (a3 + d2) / 67108864 = d3 at *
  rw [sm (a4 + d3) (by omega) (by omega)]
  have e4 : 0 ≤ (a4 + d3) / 67108864 ∧ (a4 + d3) / 67108864 ≤ 1 := by omega
  generalize (a4 + d3) / 67108864 = d4 at *
  rw [sm (a5 + d4) (by omega) (by omega)]
  have e5 : 0 ≤ (a5 + d4) / 67108864 ∧ (a5 + d4) / 67108864 ≤ 1 := by omega
  generalize (a5 + d4) / 67108864 = d5 at *
  rw [sm (a6 + d5) (by omega) (by omega)]
  have e6 : 0 ≤ (a6 + d5) / 67108864 ∧ (a6 + d5) / 67108864 ≤ 1 := by omega
  generalize (a6 + d5) / 67108864 = d6 at *
  rw [sm (a7 + d6) (by omega) (by omega)]
  have e7 : 0 ≤ (a7 + d6) / 67108864 ∧ (a7 + d6) / 67108864 ≤ 1 := by omega
  generalize (a7 + d6) / 67108864 = d7 at *
  rw [sm (a8 + d7) (by omega) (by omega)]
  have e8 : 0 ≤ (a8 + d7) / 67108864 ∧ (a8 + d7) / 67108864 ≤ 1 := by omega
  generalize (a8 + d7) / 67108864 = d8 at *
  rw [sm (a9 % 2097152 + d8) (by omega) (by omega)]
  omega

theorem fold_ends (a : Nat → Int) (h : ∀ j, j < 9 → 0 ≤ a j ∧ a j < 67108864) (h9 : 0 ≤ a 9 ∧ a 9 < 18446744073709551616) (hp : decide (rFold a 9 > 2097151) = true) : decide ((rFold (rFold a)) 9 > 2097151) = true → False := by
  intro hd
  have hp := of_decide_eq_true hp
  have hd := of_decide_eq_true hd
  obtain ⟨h1, h2, h3⟩ := fold_small a h h9
  obtain ⟨k1, _, _⟩ := fold_small (rFold a) h2 ⟨h3, by omega⟩
  omega

theorem rLeast_a (x : (Nat → Int)) : awp Try.prog o26 noG 300 (body Try.f85) (ends Try.prog Try.f85 fun v _ => okV (V.ints .u64 10 (rLeast x)) v) ⟨[(V.ints .u64 10 x)] ++ List.replicate 31 V.un, []⟩ := by
  have fin : ∀ (a : Nat → Int) (t6 t7 t8 t9 t10 t11 t12 t13 t14 t15 t16 t17 t18 t19 t20 t21 t22 : V), spineQ Try.prog o26 noG 300 (body Try.f85) (ends Try.prog Try.f85 fun v _ => okV (V.ints .u64 10 (rFin a)) v) (.exit 0) ⟨[(V.ints .u64 10 x), (V.ptr 0 0), (V.ptr 1 0), V.un, (V.ints .u64 10 x), (V.ints .u64 10 (rCarried x)), t6, t7, t8, t9, t10, t11, t12, t13, t14, t15, t16, t17, t18, t19, t20, t21, t22, V.un, V.un, V.un, V.un, V.un, V.un, V.un, V.un, V.un], [(V.ints .u64 10 a), (V.ints .u64 10 (fun _ => 0))]⟩ := by
    intro a t6 t7 t8 t9 t10 t11 t12 t13 t14 t15 t16 t17 t18 t19 t20 t21 t22
    rw [rLeast_x]
    refine mBt (fun h => ?_) (fun h => ?_)
    · simp only [rFin, h, cond_true]; exact okV_refl rfl
    · simp only [rFin, h, cond_false]; exact okV_refl rfl
  have c0 := carried_at x
  have c9 := carried9 x
  rw [rLeast_h, show (300 : Nat) = 297 + 1 + 1 + 1 from rfl, rLeast_s]
  refine mBt (fun h1 => ?_) (fun h1 => ?_)
  · rw [rLeast_s]
    refine mBt (fun h2 => ?_) (fun h2 => ?_)
    · rw [rLeast_s]
      refine mBt (fun h3 => (fold_ends _ c0 c9 h2 h3).elim) (fun h3 => ?_)
      have e : rLeast x = rFin (rFold (rFold (rCarried x))) := by unfold rLeast; rw [h1, show decide (rFold (rCarried x) 9 > 2097151) = true from h2]; rfl
      rw [e]; exact fin _ _ _ _ _ _ _ _ _ _ _ _ _ _ _ _ _ _
    · have e : rLeast x = rFin (rFold (rCarried x)) := by unfold rLeast; rw [h1, show decide (rFold (rCarried x) 9 > 2097151) = false from h2]; rfl
      rw [e]; exact fin _ _ _ _ _ _ _ _ _ _ _ _ _ _ _ _ _ _
  · have e : rLeast x = rFin (rCarried x) := by unfold rLeast; rw [h1]; rfl
    rw [e]; exact fin _ _ _ _ _ _ _ _ _ _ _ _ _ _ _ _ _ _
theorem rLeast_nf (x : Nat → Int) : rLeast (l10 (x 0) (x 1) (x 2) (x 3) (x 4) (x 5) (x 6) (x 7) (x 8) (x 9)) = rLeast x := by
  have e : rCarried (l10 (x 0) (x 1) (x 2) (x 3) (x 4) (x 5) (x 6) (x 7) (x 8) (x 9)) = rCarried x := by kernel_rfl
  unfold rLeast
  rw [e]
def g85 : List V → Option (Bool × V) := fun | [.ints .u64 10 x] => some (true, (V.ints .u64 10 (rLeast (l10 (x 0) (x 1) (x 2) (x 3) (x 4) (x 5) (x 6) (x 7) (x 8) (x 9))))) | _ => none
theorem rLeast_p (x : (Nat → Int)) : (∀ μ μ', V.den μ' (V.ints .u64 10 (rLeast x)) = V.den μ (V.ints .u64 10 (rLeast x))) ∧ ∀ μ w, PureAt Try.prog 85 (([(V.ints .u64 10 x)] : List V).map (V.den μ)).toArray (V.den μ (V.ints .u64 10 (rLeast x))) w :=
  pure_ok (F := o26) (N := 300) (fn := Try.f85) (args := [(V.ints .u64 10 x)]) (r := (V.ints .u64 10 (rLeast x))) (n := 31) hM o26_ok (noG_ok _) Try.func85 (by kernel_rfl) (by kernel_rfl) (by kernel_rfl) (by kernel_rfl) (rLeast_a x) (by kernel_rfl)
theorem g85_ok (vs : List V) (v : V) (h : g85 vs = some (true, v)) : (∀ μ μ', v.den μ' = v.den μ) ∧ ∀ μ w, PureAt Try.prog 85 (vs.map (V.den μ)).toArray (v.den μ) w := by
  unfold g85 at h
  split at h
  · simp only [Option.some.injEq, Prod.mk.injEq, true_and] at h
    subst h
    rw [rLeast_nf]
    exact rLeast_p _
  · simp at h
def o85 : Orc := ext 85 g85 o26
theorem o85_ok : OrcOK Try.prog o85 := ext_ok o26_ok g85_ok

end Go.Proofs.Ytbnclikjbnfodaa
