/-
  times and split as numbers. Conditions: none.
-/
import Derived.Test.YtnoehjibponofaaDoorPG
namespace Go.Proofs.YtnoehjibponofaaDoor
open Go.Ev
def U1 (a : Int) : Prop := 0 ≤ a ∧ a < 18446744073709551616
theorem mul_le' {a b A B : Int} (ha : 0 ≤ a) (hb : 0 ≤ b) (hA : a ≤ A) (hB : b ≤ B) : 0 ≤ a * b ∧ a * b ≤ A * B :=
  ⟨Int.mul_nonneg ha hb, Int.mul_le_mul hA hB hb (by omega)⟩
theorem and32 (a : Int) : andI .u64 a 4294967295 = a % 4294967296 := and_mask a 32 (by omega)
theorem shr32 (a : Int) : shrI .u64 a 32 = a / 4294967296 := shrU a 32 (by omega)
theorem sm (a : Int) (h0 : 0 ≤ a) (h1 : a < 18446744073709551616) : a % 18446744073709551616 = a := Int.emod_eq_of_lt h0 h1
theorem mul64_v {a b : Int} (ha : U1 a) (hb : U1 b) : (mul64 a b).1 * 18446744073709551616 + (mul64 a b).2 = a * b ∧ U1 (mul64 a b).1 ∧ U1 (mul64 a b).2 := by
  obtain ⟨a0, a1⟩ := ha; obtain ⟨b0, b1⟩ := hb
  have e : a * b = (a % 4294967296) * (b % 4294967296) + 4294967296 * ((a / 4294967296) * (b % 4294967296) + (a % 4294967296) * (b / 4294967296)) + 18446744073709551616 * ((a / 4294967296) * (b / 4294967296)) := by
    have h1 : a = a % 4294967296 + 4294967296 * (a / 4294967296) := by omega
    have h2 : b = b % 4294967296 + 4294967296 * (b / 4294967296) := by omega
    generalize a % 4294967296 = x0 at *
    generalize a / 4294967296 = x1 at *
    generalize b % 4294967296 = y0 at *
    generalize b / 4294967296 = y1 at *
    subst h1 h2
    grind
  have m00 := mul_le' (a := a % 4294967296) (b := b % 4294967296) (A := 4294967295) (B := 4294967295) (by omega) (by omega) (by omega) (by omega)
  have m10 := mul_le' (a := a / 4294967296) (b := b % 4294967296) (A := 4294967295) (B := 4294967295) (by omega) (by omega) (by omega) (by omega)
  have m01 := mul_le' (a := a % 4294967296) (b := b / 4294967296) (A := 4294967295) (B := 4294967295) (by omega) (by omega) (by omega) (by omega)
  have m11 := mul_le' (a := a / 4294967296) (b := b / 4294967296) (A := 4294967295) (B := 4294967295) (by omega) (by omega) (by omega) (by omega)
  simp only [mul64, addU, mulU, and32, shr32]
  rw [e]
  generalize (a % 4294967296) * (b % 4294967296) = p00 at *
  generalize (a / 4294967296) * (b % 4294967296) = p10 at *
  generalize (a % 4294967296) * (b / 4294967296) = p01 at *
  generalize (a / 4294967296) * (b / 4294967296) = p11 at *
  clear e a0 a1 b0 b1
  rw [sm p00 (by omega) (by omega), sm p10 (by omega) (by omega), sm p01 (by omega) (by omega), sm p11 (by omega) (by omega)]
  rw [sm (p10 + p00 / 4294967296) (by omega) (by omega), sm (p11 + _) (by omega) (by omega), sm ((p10 + p00 / 4294967296) % 4294967296 + p01) (by omega) (by omega), sm (p11 + _ + _) (by omega) (by omega)]
  unfold U1
  refine ⟨?_, ⟨?_, ?_⟩, ⟨?_, ?_⟩⟩ <;> omega
/-- A product, what stands there, the carry: the word that is left, the carry on. -/
theorem tlth_v {a b o c : Int} (ha : U1 a) (hb : U1 b) (ho : U1 o) (hc : U1 c) : tl (mul64 a b) o c + 18446744073709551616 * th (mul64 a b) o c = a * b + o + c ∧ U1 (tl (mul64 a b) o c) ∧ U1 (th (mul64 a b) o c) := by
  obtain ⟨e, ⟨h1, h2⟩, h3, h4⟩ := mul64_v ha hb
  have hm := mul_le' ha.1 hb.1 (show a ≤ 18446744073709551615 by have := ha.2; omega) (show b ≤ 18446744073709551615 by have := hb.2; omega)
  unfold tl th
  generalize a * b = m at *
  generalize (mul64 a b).1 = hi at *
  generalize (mul64 a b).2 = lo at *
  obtain ⟨o1, o2⟩ := ho; obtain ⟨c1, c2⟩ := hc
  obtain ⟨x1, x2, x3, x4⟩ := aw (x := lo) (y := o) (c := 0) h3 o1 (by omega)
  generalize aS lo o 0 = l1 at *
  generalize aC lo o 0 = k1 at *
  obtain ⟨y1, y2, y3, y4⟩ := aw (x := l1) (y := c) (c := 0) x2 c1 (by omega)
  generalize aS l1 c 0 = l2 at *
  generalize aC l1 c 0 = k2 at *
  rw [addU, addU, sm (hi + k1) (by omega) (by omega), sm (hi + k1 + k2) (by omega) (by omega)]
  unfold U1
  omega
/-- n words, as a number. -/
def lvn : Nat → (Nat → Int) → Int
  | 0, _ => 0
  | k + 1, f => lvn k f + f k * 18446744073709551616 ^ k
theorem lvn_congr {f g : Nat → Int} : ∀ {n : Nat}, (∀ j, j < n → f j = g j) → lvn n f = lvn n g
  | 0, _ => rfl
  | n + 1, h => by rw [lvn, lvn, lvn_congr (fun j hj => h j (by omega)), h n (by omega)]
theorem up_same {α : Type} (m : Nat) (v : α) (h : Nat → α) : up m v h m = v := by rw [up_at, if_pos rfl]
theorem up_ne {α : Type} {m j : Nat} (v : α) (h : Nat → α) (hj : j ≠ m) : up m v h j = h j := by rw [up_at, if_neg hj]
theorem lvn_up {n m : Nat} (v : Int) (h : Nat → Int) (hm : n ≤ m) : lvn n (up m v h) = lvn n h := lvn_congr fun j hj => up_ne v h (by omega)
theorem tin_v {a : Int} {g : Nat → Int} (ha : U1 a) (i : Nat) {hh : Nat → Int} (hU : ∀ j, U1 (hh j)) : ∀ (k : Nat), (∀ j, j < k → U1 (g j)) →
    (∀ j, U1 ((tin a g i hh k).1 j)) ∧ U1 (tin a g i hh k).2 ∧ (∀ j, i + k ≤ j → (tin a g i hh k).1 j = hh j) ∧
    lvn (i + k) (tin a g i hh k).1 + (tin a g i hh k).2 * 18446744073709551616 ^ (i + k) = lvn (i + k) hh + a * lvn k g * 18446744073709551616 ^ i
  | 0, _ => by
    refine ⟨hU, ⟨by show (0 : Int) ≤ 0; decide, by show (0 : Int) < _; decide⟩, fun _ _ => rfl, ?_⟩
    simp only [tin, lvn, Nat.add_zero, Int.mul_zero, Int.zero_mul]
  | k + 1, hg => by
    obtain ⟨h1, h2, h3, h4⟩ := tin_v ha i hU k (fun j hj => hg j (by omega))
    obtain ⟨w1, w2, w3⟩ := tlth_v ha (hg k (by omega)) (h1 (i + k)) h2
    simp only [tin]
    generalize tin a g i hh k = r at *
    generalize tl (mul64 a (g k)) (r.1 (i + k)) r.2 = l at *
    generalize th (mul64 a (g k)) (r.1 (i + k)) r.2 = t at *
    refine ⟨fun j => ?_, w3, fun j hj => ?_, ?_⟩
    · by_cases e : j = i + k
      · rw [e, up_same]; exact w2
      · rw [up_ne _ _ e]; exact h1 j
    · rw [up_ne _ _ (by omega)]; exact h3 j (by omega)
    · rw [← Nat.add_assoc, lvn, lvn, up_same, lvn_up _ _ (Nat.le_refl _), lvn, ← h3 (i + k) (Nat.le_refl _)]
      have e1 : (18446744073709551616 : Int) ^ (i + k + 1) = 18446744073709551616 ^ (i + k) * 18446744073709551616 := Int.pow_succ _ _
      have e2 : (18446744073709551616 : Int) ^ (i + k) = 18446744073709551616 ^ i * 18446744073709551616 ^ k := Int.pow_add _ _ _
      rw [e1]
      rw [e2] at h4 ⊢
      generalize (18446744073709551616 : Int) ^ i = P at *
      generalize (18446744073709551616 : Int) ^ k = Q at *
      generalize lvn (i + k) r.1 = X at *
      generalize lvn (i + k) hh = Y at *
      generalize lvn k g = Z at *
      generalize r.1 (i + k) = o at *
      generalize r.2 = c at *
      generalize g k = b at *
      clear w2 w3 h1 h2 h3 hg hU ha
      grind
theorem times_v {f g : Nat → Int} {n : Nat} (hg : ∀ j, j < n → U1 (g j)) : ∀ (i : Nat), (∀ j, j < i → U1 (f j)) →
    (∀ j, U1 (timesR f g n i j)) ∧ lvn (i + n) (timesR f g n i) = lvn i f * lvn n g
  | 0, _ => by
    refine ⟨fun j => ⟨by show (0 : Int) ≤ 0; decide, by show (0 : Int) < _; decide⟩, ?_⟩
    have : ∀ m, lvn m (fun _ => 0) = 0 := by
      intro m
      induction m with
      | zero => rfl
      | succ m ih => rw [lvn, ih]; simp
    simp only [timesR, this, lvn, Int.zero_mul]
  | i + 1, hf => by
    obtain ⟨h1, h2⟩ := times_v hg i (fun j hj => hf j (by omega))
    obtain ⟨t1, t2, t3, t4⟩ := tin_v (hf i (by omega)) i h1 n hg
    simp only [timesR]
    generalize tin (f i) g i (timesR f g n i) n = r at *
    refine ⟨fun j => ?_, ?_⟩
    · by_cases e : j = i + n
      · rw [e, up_same]; exact t2
      · rw [up_ne _ _ e]; exact t1 j
    · rw [show i + 1 + n = i + n + 1 by omega, lvn, lvn, up_same, lvn_up _ _ (Nat.le_refl _), t4, h2, Int.add_mul]
      congr 1
      rw [Int.mul_assoc, Int.mul_assoc, Int.mul_comm (lvn n g)]
theorem times_congr {f f' g : Nat → Int} {n : Nat} : ∀ {i : Nat}, (∀ j, j < i → f j = f' j) → timesR f g n i = timesR f' g n i
  | 0, _ => rfl
  | i + 1, h => by
    simp only [timesR]
    rw [times_congr (fun j hj => h j (by omega)), h i (by omega)]
theorem times_congr2 {f g g' : Nat → Int} {n : Nat} (h : ∀ j, j < n → g j = g' j) : ∀ {i : Nat}, timesR f g n i = timesR f g' n i
  | 0 => rfl
  | i + 1 => by
    have key : ∀ (a : Int) (hh : Nat → Int) k, k ≤ n → tin a g i hh k = tin a g' i hh k := by
      intro a hh k
      induction k with
      | zero => intro _; rfl
      | succ k ih => intro hk; simp only [tin]; rw [ih (by omega), h k (by omega)]
    simp only [timesR]
    rw [times_congr2 h, key _ _ n (Nat.le_refl _)]
end Go.Proofs.YtnoehjibponofaaDoor
