/-
  A part of the groundwork of this seat's claims: an evaluator over the program, walks, and plain mathematics. Conditions: none.
-/
import Derived.Test.YtnoehjibponofaaDoorY04
import Derived.Test.YtnoehjibponofaaDoorFvL
import Derived.Test.YtnoehjibponofaaDoorFvJ
import Derived.LaidMore
import Derived.LaidLaws
import Derived.ChangeBears2
/-
  times, reduce: a number folded at 2^252 four times. Conditions: none.
-/
namespace Go.Proofs.YtnoehjibponofaaDoor
open Go.Ev
theorem hide_ex {α : Type} (a : α) : ∃ f : α, f = a := ⟨a, rfl⟩
/- The same by names that are not unfolded. -/
noncomputable def u4O : (Nat → Int) → Bool := Classical.choose (hide_ex u4)
theorem u4O_eq : u4O = u4 := Classical.choose_spec (hide_ex u4)
noncomputable def plusO : (Nat → Int) → (Nat → Int) → Nat → Int := Classical.choose (hide_ex plusF)
theorem plusO_eq : plusO = plusF := Classical.choose_spec (hide_ex plusF)
noncomputable def minusO : (Nat → Int) → (Nat → Int) → Nat → Int := Classical.choose (hide_ex minusF)
theorem minusO_eq : minusO = minusF := Classical.choose_spec (hide_ex minusF)
noncomputable def pcO : (Nat → Int) → (Nat → Int) → Int := Classical.choose (hide_ex fun x y => pc x y 4)
theorem pcO_eq : pcO = fun x y => pc x y 4 := Classical.choose_spec (hide_ex fun x y => pc x y 4)
noncomputable def bcO : (Nat → Int) → (Nat → Int) → Int := Classical.choose (hide_ex fun x y => bc x y 4)
theorem bcO_eq : bcO = fun x y => bc x y 4 := Classical.choose_spec (hide_ex fun x y => bc x y 4)
noncomputable def belO : (Nat → Int) → (Nat → Int) → Nat → Int := Classical.choose (hide_ex fun o x => belowR o 16 x)
theorem belO_eq : belO = fun o x => belowR o 16 x := Classical.choose_spec (hide_ex fun o x => belowR o 16 x)
noncomputable def g50O : List V → Option (Bool × V) := fun | [.ints .u64 4 x, .ints .u64 4 y] => some (u4O x && u4O y, .tup [.ints .u64 4 (plusO x y), .int .u64 (pcO x y)]) | _ => none
theorem g50O_eq : g50O = g50 := by
  funext vs
  unfold g50O g50
  simp only [u4O_eq, plusO_eq, pcO_eq]
  kernel_rfl
noncomputable def g43O : List V → Option (Bool × V) := fun | [.ints .u64 4 x, .ints .u64 4 y] => some (true, .tup [.ints .u64 4 (minusO x y), .int .u64 (bcO x y)]) | _ => none
theorem g43O_eq : g43O = g43 := by
  funext vs
  unfold g43O g43
  simp only [minusO_eq, bcO_eq]
  kernel_rfl
noncomputable def g52O : List V → List V → Option (Bool × V) := fun vs m => match views [2] vs m with
  | some ([.ints .u64 4 x], [.tup [.fn 2, .ints .u64 4 o]]) => some (u4O x && eqN 4 o ordF, .ints .u64 4 (belO o x))
  | _ => none
theorem g52O_eq : g52O = g52 := by
  funext vs m
  unfold g52O g52
  simp only [u4O_eq, belO_eq]
  kernel_rfl
noncomputable def q50 : Orc := ext 50 g50O p62
theorem q50_ok : OrcOK Tryd.prog q50 := by unfold q50; rw [g50O_eq]; exact ext_ok p62_ok g50_ok
noncomputable def q43 : Orc := ext 43 g43O q50
theorem q43_ok : OrcOK Tryd.prog q43 := by unfold q43; rw [g43O_eq]; exact ext_ok q50_ok g43_ok
noncomputable def q52 : Orc := extM 52 g52O q43
theorem q52_ok : OrcOK Tryd.prog q52 := by unfold q52; rw [g52O_eq]; exact extM_ok q43_ok g52_ok g52_grow
def tl (p : Int × Int) (o c : Int) : Int := aS (aS p.2 o 0) c 0
def th (p : Int × Int) (o c : Int) : Int := addI .u64 (addI .u64 p.1 (aC p.2 o 0)) (aC (aS p.2 o 0) c 0)
/-- A word times k words, added to what stands from word i on; the carry. -/
def tin (a : Int) (g : Nat → Int) (i : Nat) (hh : Nat → Int) : Nat → (Nat → Int) × Int
  | 0 => (hh, 0)
  | k + 1 => (up (i + k) (tl (mul64 a (g k)) ((tin a g i hh k).1 (i + k)) (tin a g i hh k).2) (tin a g i hh k).1, th (mul64 a (g k)) ((tin a g i hh k).1 (i + k)) (tin a g i hh k).2)
/-- The product of i words and n words. -/
def timesR (f g : Nat → Int) (n : Nat) : Nat → (Nat → Int)
  | 0 => fun _ => 0
  | i + 1 => up (i + n) (tin (f i) g i (timesR f g n i) n).2 (tin (f i) g i (timesR f g n i) n).1
/-- L less 2^252. -/
def restF : Nat → Int := up 1 1503914060200516822 (up 0 6346243789798364141 (fun _ => 0))
def Z0 : Nat → Int := fun _ => 0
noncomputable def fold (S : Nat → Int) (off n : Nat) (x : Nat → Int) : Nat → Int := spl off 4 8 (plusO (sh off S) (lowF n x)) S
def nx (n : Nat) (x h : Nat → Int) : Nat → Int := timesR (apx (n - 3) (hiF n x) h) restF 2 (n - 3)
noncomputable def G47 : GOrc := inl Tryd.prog q52 300 47 Tryd.f47 (inl Tryd.prog q52 300 63 Tryd.f63 G62)
theorem G47_ok : GOrcOK Tryd.prog G47 := inl_ok hM q52_ok (inl_ok hM q52_ok G62_ok Tryd.func63 (by kernel_rfl) (by kernel_rfl)) Tryd.func47 (by kernel_rfl) (by kernel_rfl)
/-- What is left to be brought below L: x0 .. x3: what is folded. -/
noncomputable def redS (f x1 x2 x3 : Nat → Int) (n0 n1 n2 n3 : Nat) : Nat → Int := fold (fold (fold (fold Z0 0 n0 f) 4 n1 x1) 0 n2 x2) 4 n3 x3
noncomputable def redM (o S : Nat → Int) : Nat → Int := minusO (plusO (sh 0 S) (plusO o o)) (sh 4 S)
theorem red4_t (e c : Nat) (o f : Nat → Int) (r : V) : awp Tryd.prog q52 G47 300 (body Tryd.f40) (ends Tryd.prog Tryd.f40 fun v _ => okV r v) ⟨[V.sl 1 0 4 c] ++ List.replicate 55 V.un, [V.tup [V.fn 2, V.ints .u64 4 o], V.tup [V.ints .u64 (e + 4) f]]⟩ = (∀ (_e0 : Nat) (h0 : Nat → Int), (gB (u4O (sh 0 Z0) && u4O (lowF 4 f)) (gB (u4O (sh 4 (fold Z0 0 4 f)) && u4O (lowF 3 (nx 4 f h0))) (gB (u4O (sh 0 (fold (fold Z0 0 4 f) 4 3 (nx 4 f h0))) && u4O (lowF 2 Z0)) (gB (u4O (sh 4 (fold (fold (fold Z0 0 4 f) 4 3 (nx 4 f h0)) 0 2 Z0)) && u4O (lowF 2 Z0)) (gB (u4O o && u4O o) (gB (u4O (sh 0 (fold (fold (fold (fold Z0 0 4 f) 4 3 (nx 4 f h0)) 0 2 Z0) 4 2 Z0)) && u4O (plusO o o)) (gB (u4O (redM o (fold (fold (fold (fold Z0 0 4 f) 4 3 (nx 4 f h0)) 0 2 Z0) 4 2 Z0)) && eqN 4 o ordF) (okV r (V.ints .u64 4 (belO o (redM o (fold (fold (fold (fold Z0 0 4 f) 4 3 (nx 4 f h0)) 0 2 Z0) 4 2 Z0))))))))))))) := by kernel_rfl
theorem red8_t (e c : Nat) (o f : Nat → Int) (r : V) : awp Tryd.prog q52 G47 300 (body Tryd.f40) (ends Tryd.prog Tryd.f40 fun v _ => okV r v) ⟨[V.sl 1 0 8 c] ++ List.replicate 55 V.un, [V.tup [V.fn 2, V.ints .u64 4 o], V.tup [V.ints .u64 (e + 8) f]]⟩ = (∀ (_e0 : Nat) (h0 : Nat → Int), (gB (u4O (sh 0 Z0) && u4O (lowF 8 f)) (∀ (_e1 : Nat) (h1 : Nat → Int), (gB (u4O (sh 4 (fold Z0 0 8 f)) && u4O (lowF 7 (nx 8 f h0))) (∀ (_e2 : Nat) (h2 : Nat → Int), (gB (u4O (sh 0 (fold (fold Z0 0 8 f) 4 7 (nx 8 f h0))) && u4O (lowF 6 (nx 7 (nx 8 f h0) h1))) (∀ (_e3 : Nat) (h3 : Nat → Int), (gB (u4O (sh 4 (fold (fold (fold Z0 0 8 f) 4 7 (nx 8 f h0)) 0 6 (nx 7 (nx 8 f h0) h1))) && u4O (lowF 5 (nx 6 (nx 7 (nx 8 f h0) h1) h2))) (gB (u4O o && u4O o) (gB (u4O (sh 0 (fold (fold (fold (fold Z0 0 8 f) 4 7 (nx 8 f h0)) 0 6 (nx 7 (nx 8 f h0) h1)) 4 5 (nx 6 (nx 7 (nx 8 f h0) h1) h2))) && u4O (plusO o o)) (gB (u4O (redM o (fold (fold (fold (fold Z0 0 8 f) 4 7 (nx 8 f h0)) 0 6 (nx 7 (nx 8 f h0) h1)) 4 5 (nx 6 (nx 7 (nx 8 f h0) h1) h2))) && eqN 4 o ordF) (okV r (V.ints .u64 4 (belO o (redM o (fold (fold (fold (fold Z0 0 8 f) 4 7 (nx 8 f h0)) 0 6 (nx 7 (nx 8 f h0) h1)) 4 5 (nx 6 (nx 7 (nx 8 f h0) h1) h2))))))))))))))))) := by kernel_rfl
end Go.Proofs.YtnoehjibponofaaDoor

/-
  times and split as numbers. Conditions: none.
-/
namespace Go.Proofs.YtnoehjibponofaaDoor
open Go.Ev
def U1 (a : Int) : Prop := 0 ≤ a ∧ a < 18446744073709551616
theorem mul_le' {a b A B : Int} (ha : 0 ≤ a) (hb : 0 ≤ b) (hA : a ≤ A) (hB : b ≤ B) : 0 ≤ a * b ∧ a * b ≤ A * B :=
  ⟨Int.mul_nonneg ha hb, Int.mul_le_mul hA hB hb (by omega)⟩
theorem and32 (a : Int) : andI .u64 a 4294967295 = a % 4294967296 := and_mask a 32 (by omega)
theorem shr32 (a : Int) : shrI .u64 a 32 = a / 4294967296 := shrU a 32 (by omega)
theorem sm (a : Int) (h0 : 0 ≤ a) (h1 : a < 18446744073709551616) : a % 18446744073709551616 = a := Int.emod_eq_of_lt h0 h1
theorem mul64_v {a b : Int} (ha : U1 a) (hb : U1 b) : (mul64 a b).1 * 18446744073709551616 + (mul64 a b).2 = a * b ∧ U1 (mul64 a b).1 ∧ U1 (mul64 a b).2 := by
  obtain ⟨a0, a1⟩ := ha; obtain ⟨b0, b1⟩ := hb
  have e : a * b = (a % 4294967296) * (b % 4294967296) + 4294967296 * ((a / 4294967296) * (b % 4294967296) + (a % 4294967296) * (b / 4294967296)) + 18446744073709551616 * ((a / 4294967296) * (b / 4294967296)) := by
    have h1 : a = a % 4294967296 + 4294967296 * (a / 4294967296) := by omega
    have h2 : b = b % 4294967296 + 4294967296 * (b / 4294967296) := by omega
    generalize a % 4294967296 = x0 at *
    generalize a / 4294967296 = x1 at *
    generalize b % 4294967296 = y0 at *
    generalize b / 4294967296 = y1 at *
    subst h1 h2
    grind
  have m00 := mul_le' (a := a % 4294967296) (b := b % 4294967296) (A := 4294967295) (B := 4294967295) (by omega) (by omega) (by omega) (by omega)
  have m10 := mul_le' (a := a / 4294967296) (b := b % 4294967296) (A := 4294967295) (B := 4294967295) (by omega) (by omega) (by omega) (by omega)
  have m01 := mul_le' (a := a % 4294967296) (b := b / 4294967296) (A := 4294967295) (B := 4294967295) (by omega) (by omega) (by omega) (by omega)
  have m11 := mul_le' (a := a / 4294967296) (b := b / 4294967296) (A := 4294967295) (B := 4294967295) (by omega) (by omega) (by omega) (by omega)
  simp only [mul64, addU, mulU, and32, shr32]
  rw [e]
  generalize (a % 4294967296) * (b % 4294967296) = p00 at *
  generalize (a / 4294967296) * (b % 4294967296) = p10 at *
  generalize (a % 4294967296) * (b / 4294967296) = p01 at *
  generalize (a / 4294967296) * (b / 4294967296) = p11 at *
  clear e a0 a1 b0 b1
  rw [sm p00 (by omega) (by omega), sm p10 (by omega) (by omega), sm p01 (by omega) (by omega), sm p11 (by omega) (by omega)]
  rw [sm (p10 + p00 / 4294967296) (by omega) (by omega), sm (p11 + _) (by omega) (by omega), sm ((p10 + p00 / 4294967296) % 4294967296 + p01) (by omega) (by omega), sm (p11 + _ + _) (by omega) (by omega)]
  unfold U1
  refine ⟨?_, ⟨?_, ?_⟩, ⟨?_, ?_⟩⟩ <;> omega
/-- A product, what stands there, the carry: the word that is left, the carry on. -/
theorem tlth_v {a b o c : Int} (ha : U1 a) (hb : U1 b) (ho : U1 o) (hc : U1 c) : tl (mul64 a b) o c + 18446744073709551616 * th (mul64 a b) o c = a * b + o + c ∧ U1 (tl (mul64 a b) o c) ∧ U1 (th (mul64 a b) o c) := by
  obtain ⟨e, ⟨h1, h2⟩, h3, h4⟩ := mul64_v ha hb
  have hm := mul_le' ha.1 hb.1 (show a ≤ 18446744073709551615 by have := ha.2; omega) (show b ≤ 18446744073709551615 by have := hb.2; omega)
  unfold tl th
  generalize a * b = m at *
  generalize (mul64 a b).1 = hi at *
  generalize (mul64 a b).2 = lo at *
  obtain ⟨o1, o2⟩ := ho; obtain ⟨c1, c2⟩ := hc
  obtain ⟨x1, x2, x3, x4⟩ := aw (x := lo) (y := o) (c := 0) h3 o1 (by omega)
  generalize aS lo o 0 = l1 at *
  generalize aC lo o 0 = k1 at *
  obtain ⟨y1, y2, y3, y4⟩ := aw (x := l1) (y := c) (c := 0) x2 c1 (by omega)
  generalize aS l1 c 0 = l2 at *
  generalize aC l1 c 0 = k2 at *
  rw [addU, addU, sm (hi + k1) (by omega) (by omega), sm (hi + k1 + k2) (by omega) (by omega)]
  unfold U1
  omega
/-- n words, as a number. -/
def lvn : Nat → (Nat → Int) → Int
  | 0, _ => 0
  | k + 1, f => lvn k f + f k * 18446744073709551616 ^ k
theorem lvn_congr {f g : Nat → Int} : ∀ {n : Nat}, (∀ j, j < n → f j = g j) → lvn n f = lvn n g
  | 0, _ => rfl
  | n + 1, h => by rw [lvn, lvn, lvn_congr (fun j hj => h j (by omega)), h n (by omega)]
theorem up_same {α : Type} (m : Nat) (v : α) (h : Nat → α) : up m v h m = v := by rw [up_at, if_pos rfl]
theorem up_ne {α : Type} {m j : Nat} (v : α) (h : Nat → α) (hj : j ≠ m) : up m v h j = h j := by rw [up_at, if_neg hj]
theorem lvn_up {n m : Nat} (v : Int) (h : Nat → Int) (hm : n ≤ m) : lvn n (up m v h) = lvn n h := lvn_congr fun j hj => up_ne v h (by omega)
theorem tin_v {a : Int} {g : Nat → Int} (ha : U1 a) (i : Nat) {hh : Nat → Int} (hU : ∀ j, U1 (hh j)) : ∀ (k : Nat), (∀ j, j < k → U1 (g j)) →
    (∀ j, U1 ((tin a g i hh k).1 j)) ∧ U1 (tin a g i hh k).2 ∧ (∀ j, i + k ≤ j → (tin a g i hh k).1 j = hh j) ∧
    lvn (i + k) (tin a g i hh k).1 + (tin a g i hh k).2 * 18446744073709551616 ^ (i + k) = lvn (i + k) hh + a * lvn k g * 18446744073709551616 ^ i
  | 0, _ => by
    refine ⟨hU, ⟨by show (0 : Int) ≤ 0; decide, by show (0 : Int) < _; decide⟩, fun _ _ => rfl, ?_⟩
    simp only [tin, lvn, Nat.add_zero, Int.mul_zero, Int.zero_mul]
  | k + 1, hg => by
    obtain ⟨h1, h2, h3, h4⟩ := tin_v ha i hU k (fun j hj => hg j (by omega))
    obtain ⟨w1, w2, w3⟩ := tlth_v ha (hg k (by omega)) (h1 (i + k)) h2
    simp only [tin]
    generalize tin a g i hh k = r at *
    generalize tl (mul64 a (g k)) (r.1 (i + k)) r.2 = l at *
    generalize th (mul64 a (g k)) (r.1 (i + k)) r.2 = t at *
    refine ⟨fun j => ?_, w3, fun j hj => ?_, ?_⟩
    · by_cases e : j = i + k
      · rw [e, up_same]; exact w2
      · rw [up_ne _ _ e]; exact h1 j
    · rw [up_ne _ _ (by omega)]; exact h3 j (by omega)
    · rw [← Nat.add_assoc, lvn, lvn, up_same, lvn_up _ _ (Nat.le_refl _), lvn, ← h3 (i + k) (Nat.le_refl _)]
      have e1 : (18446744073709551616 : Int) ^ (i + k + 1) = 18446744073709551616 ^ (i + k) * 18446744073709551616 := Int.pow_succ _ _
      have e2 : (18446744073709551616 : Int) ^ (i + k) = 18446744073709551616 ^ i * 18446744073709551616 ^ k := Int.pow_add _ _ _
      rw [e1]
      rw [e2] at h4 ⊢
      generalize (18446744073709551616 : Int) ^ i = P at *
      generalize (18446744073709551616 : Int) ^ k = Q at *
      generalize lvn (i + k) r.1 = X at *
      generalize lvn (i + k) hh = Y at *
      generalize lvn k g = Z at *
      generalize r.1 (i + k) = o at *
      generalize r.2 = c at *
      generalize g k = b at *
      clear w2 w3 h1 h2 h3 hg hU ha
      grind
theorem times_v {f g : Nat → Int} {n : Nat} (hg : ∀ j, j < n → U1 (g j)) : ∀ (i : Nat), (∀ j, j < i → U1 (f j)) →
    (∀ j, U1 (timesR f g n i j)) ∧ lvn (i + n) (timesR f g n i) = lvn i f * lvn n g
  | 0, _ => by
    refine ⟨fun j => ⟨by show (0 : Int) ≤ 0; decide, by show (0 : Int) < _; decide⟩, ?_⟩
    have : ∀ m, lvn m (fun _ => 0) = 0 := by
      intro m
      induction m with
      | zero => rfl
      | succ m ih => rw [lvn, ih]; simp
    simp only [timesR, this, lvn, Int.zero_mul]
  | i + 1, hf => by
    obtain ⟨h1, h2⟩ := times_v hg i (fun j hj => hf j (by omega))
    obtain ⟨t1, t2, t3, t4⟩ := tin_v (hf i (by omega)) i h1 n hg
    simp only [timesR]
    generalize tin (f i) g i (timesR f g n i) n = r at *
    refine ⟨fun j => ?_, ?_⟩
    · by_cases e : j = i + n
      · rw [e, up_same]; exact t2
      · rw [up_ne _ _ e]; exact t1 j
    · rw [show i + 1 + n = i + n + 1 by omega, lvn, lvn, up_same, lvn_up _ _ (Nat.le_refl _), t4, h2, Int.add_mul]
      congr 1
      rw [Int.mul_assoc, Int.mul_assoc, Int.mul_comm (lvn n g)]
theorem times_congr {f f' g : Nat → Int} {n : Nat} : ∀ {i : Nat}, (∀ j, j < i → f j = f' j) → timesR f g n i = timesR f' g n i
  | 0, _ => rfl
  | i + 1, h => by
    simp only [timesR]
    rw [times_congr (fun j hj => h j (by omega)), h i (by omega)]
theorem times_congr2 {f g g' : Nat → Int} {n : Nat} (h : ∀ j, j < n → g j = g' j) : ∀ {i : Nat}, timesR f g n i = timesR f g' n i
  | 0 => rfl
  | i + 1 => by
    have key : ∀ (a : Int) (hh : Nat → Int) k, k ≤ n → tin a g i hh k = tin a g' i hh k := by
      intro a hh k
      induction k with
      | zero => intro _; rfl
      | succ k ih => intro hk; simp only [tin]; rw [ih (by omega), h k (by omega)]
    simp only [timesR]
    rw [times_congr2 h, key _ _ n (Nat.le_refl _)]
end Go.Proofs.YtnoehjibponofaaDoor

/-
  Bits laid side by side; split as numbers. Conditions: none.
-/
namespace Go.Proofs.YtnoehjibponofaaDoor
open Go.Ev
theorem ofInt_nat {a : Int} (h0 : 0 ≤ a) (h1 : a < 18446744073709551616) : (BitVec.ofInt (IntKind.bits .u64) a).toNat = a.toNat := by
  rw [BitVec.toNat_ofInt]
  show (a % 18446744073709551616).toNat = _
  rw [sm a h0 h1]
/-- Bits that do not meet. -/
theorem or_add (a b : Int) (m : Nat) (ha : 0 ≤ a) (ham : a < 2 ^ m) (hb : 0 ≤ b) (h : a + b * 2 ^ m < 18446744073709551616) : orI .u64 a (b * 2 ^ m) = a + b * 2 ^ m := by
  have hp : (0 : Int) < 2 ^ m := by exact_mod_cast Nat.two_pow_pos m
  have hbm : 0 ≤ b * 2 ^ m := Int.mul_nonneg hb (by omega)
  unfold orI bits2
  rw [BitVec.toNat_or, ofInt_nat ha (by omega), ofInt_nat hbm (by omega)]
  have e : (b * 2 ^ m).toNat = 2 ^ m * b.toNat := by
    obtain ⟨B, rfl⟩ := Int.eq_ofNat_of_zero_le hb
    have : ((B : Int) * 2 ^ m) = ((2 ^ m * B : Nat) : Int) := by rw [Int.natCast_mul, Int.mul_comm]; simp
    rw [this, Int.toNat_natCast, Int.toNat_natCast]
  have e2 : a.toNat < 2 ^ m := by
    have : ((2 ^ m : Nat) : Int) = 2 ^ m := by simp
    omega
  rw [e, Nat.or_comm, ← Nat.two_pow_add_eq_or_of_lt e2]
  have e3 : ((2 ^ m * b.toNat + a.toNat : Nat) : Int) = a + b * 2 ^ m := by rw [← e]; omega
  rw [e3, wrap_u64, sm _ (by omega) h]
theorem or_shl4 {a b : Int} (ha : 0 ≤ a) (ha1 : a < 16) : orI .u64 a (shlI .u64 b 4) = a + 16 * (b % 1152921504606846976) := by
  have e : shlI .u64 b 4 = (b % 1152921504606846976) * 2 ^ 4 := by
    show shlI .u64 b ((4 : Nat) : Int) = _
    rw [shlU b 4 (by omega)]; omega
  rw [e, or_add a _ 4 ha (by omega) (by omega) (by omega)]
  omega
theorem shr60 (a : Int) : shrI .u64 a 60 = a / 1152921504606846976 := shrU a 60 (by omega)
theorem and60 (a : Int) : andI .u64 a 1152921504606846975 = a % 1152921504606846976 := and_mask a 60 (by omega)
theorem hi_last {n j : Nat} (h : ¬ j + 4 < n) (x : Nat → Int) : hiF n x j = x (j + 3) / 1152921504606846976 := by
  unfold hiF
  rw [ff bltT h, cond_false, shr60]
theorem hi_mid {n j : Nat} (h : j + 4 < n) {x : Nat → Int} (h3 : U1 (x (j + 3))) (h4 : U1 (x (j + 4))) : hiF n x j = x (j + 3) / 1152921504606846976 + 16 * (x (j + 4) % 1152921504606846976) := by
  unfold hiF
  rw [bltT.2 h, cond_true, shr60]
  obtain ⟨a, b⟩ := h3; obtain ⟨c, d⟩ := h4
  exact or_shl4 (by omega) (by omega)
theorem hi_U {n : Nat} {x : Nat → Int} (hx : ∀ j, j < n → U1 (x j)) : ∀ j, j + 3 < n → U1 (hiF n x j) := by
  intro j hj
  have h3 := hx (j + 3) hj
  by_cases h : j + 4 < n
  · have h4 := hx (j + 4) h
    rw [hi_mid h h3 h4]
    obtain ⟨a, b⟩ := h3; obtain ⟨c, d⟩ := h4
    exact ⟨by omega, by omega⟩
  · rw [hi_last h]
    obtain ⟨a, b⟩ := h3
    exact ⟨by omega, by omega⟩
/-- The first 252 bits. -/
theorem low_v {n : Nat} {x : Nat → Int} (hx : ∀ j, j < n → U1 (x j)) : u4 (lowF n x) = true ∧ 0 ≤ lv4 (lowF n x) ∧ lv4 (lowF n x) < 7237005577332262213973186563042994240829374041602535252466099000494570602496 := by
  have h : ∀ j, j < 3 → U1 (lowF n x j) := by
    intro j hj
    have e : lowF n x j = bif Nat.blt j n then x j else 0 := by
      unfold lowF
      rw [ff beqT (by omega), cond_false]
    rw [e]
    by_cases hjn : j < n
    · rw [bltT.2 hjn, cond_true]; exact hx j hjn
    · rw [ff bltT hjn, cond_false]; exact ⟨by decide, by decide⟩
  have h3 : 0 ≤ lowF n x 3 ∧ lowF n x 3 < 1152921504606846976 := by
    have e : lowF n x 3 = (bif Nat.blt 3 n then x 3 else 0) % 1152921504606846976 := by
      unfold lowF
      rw [beqT.2 rfl, cond_true, and60]
    rw [e]; omega
  obtain ⟨a0, b0⟩ := h 0 (by omega); obtain ⟨a1, b1⟩ := h 1 (by omega); obtain ⟨a2, b2⟩ := h 2 (by omega)
  refine ⟨u4_mk fun j hj => ?_, ?_, ?_⟩
  · have : j = 0 ∨ j = 1 ∨ j = 2 ∨ j = 3 := by omega
    rcases this with rfl | rfl | rfl | rfl
    · exact ⟨a0, b0⟩
    · exact ⟨a1, b1⟩
    · exact ⟨a2, b2⟩
    · exact ⟨h3.1, by omega⟩
  · unfold lv4; omega
  · unfold lv4; omega
theorem low_small {n : Nat} {x : Nat → Int} {j : Nat} (hj : j < 3) (hn : j < n) : lowF n x j = x j := by
  unfold lowF
  rw [ff beqT (by omega), cond_false, bltT.2 hn, cond_true]
theorem low_none {n : Nat} {x : Nat → Int} {j : Nat} (hj : j < 3) (hn : ¬ j < n) : lowF n x j = 0 := by
  unfold lowF
  rw [ff beqT (by omega), cond_false, ff bltT hn, cond_false]
theorem low_3 {n : Nat} {x : Nat → Int} (hn : 3 < n) : lowF n x 3 = x 3 % 1152921504606846976 := by
  unfold lowF
  rw [beqT.2 rfl, cond_true, bltT.2 hn, cond_true, and60]
theorem low_3n {n : Nat} {x : Nat → Int} (hn : ¬ 3 < n) : lowF n x 3 = 0 := by
  unfold lowF
  rw [beqT.2 rfl, cond_true, ff bltT hn, cond_false, and60]; rfl
theorem split_v4 {x : Nat → Int} (hx : ∀ j, j < 4 → U1 (x j)) : lvn 4 x = lv4 (lowF 4 x) + 7237005577332262213973186563042994240829374041602535252466099000494570602496 * lvn 1 (hiF 4 x) := by
  have u0 := hx 0 (by omega)
  have u1 := hx 1 (by omega)
  have u2 := hx 2 (by omega)
  have u3 := hx 3 (by omega)
  simp only [lvn, lv4, Int.reducePow, Nat.reduceAdd, low_small (x := x) (n := 4) (j := 0) (by omega) (by omega), low_small (x := x) (n := 4) (j := 1) (by omega) (by omega), low_small (x := x) (n := 4) (j := 2) (by omega) (by omega), low_3 (x := x) (n := 4) (by omega), hi_last (n := 4) (j := 0) (by omega) x]
  unfold U1 at *
  generalize x 0 = a0 at *
  generalize x 1 = a1 at *
  generalize x 2 = a2 at *
  generalize x 3 = a3 at *
  clear hx
  omega
theorem split_v5 {x : Nat → Int} (hx : ∀ j, j < 5 → U1 (x j)) : lvn 5 x = lv4 (lowF 5 x) + 7237005577332262213973186563042994240829374041602535252466099000494570602496 * lvn 2 (hiF 5 x) := by
  have u0 := hx 0 (by omega)
  have u1 := hx 1 (by omega)
  have u2 := hx 2 (by omega)
  have u3 := hx 3 (by omega)
  have u4 := hx 4 (by omega)
  simp only [lvn, lv4, Int.reducePow, Nat.reduceAdd, low_small (x := x) (n := 5) (j := 0) (by omega) (by omega), low_small (x := x) (n := 5) (j := 1) (by omega) (by omega), low_small (x := x) (n := 5) (j := 2) (by omega) (by omega), low_3 (x := x) (n := 5) (by omega), hi_mid (n := 5) (j := 0) (by omega) u3 u4, hi_last (n := 5) (j := 1) (by omega) x]
  unfold U1 at *
  generalize x 0 = a0 at *
  generalize x 1 = a1 at *
  generalize x 2 = a2 at *
  generalize x 3 = a3 at *
  generalize x 4 = a4 at *
  clear hx
  omega
theorem split_v6 {x : Nat → Int} (hx : ∀ j, j < 6 → U1 (x j)) : lvn 6 x = lv4 (lowF 6 x) + 7237005577332262213973186563042994240829374041602535252466099000494570602496 * lvn 3 (hiF 6 x) := by
  have u0 := hx 0 (by omega)
  have u1 := hx 1 (by omega)
  have u2 := hx 2 (by omega)
  have u3 := hx 3 (by omega)
  have u4 := hx 4 (by omega)
  have u5 := hx 5 (by omega)
  simp only [lvn, lv4, Int.reducePow, Nat.reduceAdd, low_small (x := x) (n := 6) (j := 0) (by omega) (by omega), low_small (x := x) (n := 6) (j := 1) (by omega) (by omega), low_small (x := x) (n := 6) (j := 2) (by omega) (by omega), low_3 (x := x) (n := 6) (by omega), hi_mid (n := 6) (j := 0) (by omega) u3 u4, hi_mid (n := 6) (j := 1) (by omega) u4 u5, hi_last (n := 6) (j := 2) (by omega) x]
  unfold U1 at *
  generalize x 0 = a0 at *
  generalize x 1 = a1 at *
  generalize x 2 = a2 at *
  generalize x 3 = a3 at *
  generalize x 4 = a4 at *
  generalize x 5 = a5 at *
  clear hx
  omega
theorem split_v7 {x : Nat → Int} (hx : ∀ j, j < 7 → U1 (x j)) : lvn 7 x = lv4 (lowF 7 x) + 7237005577332262213973186563042994240829374041602535252466099000494570602496 * lvn 4 (hiF 7 x) := by
  have u0 := hx 0 (by omega)
  have u1 := hx 1 (by omega)
  have u2 := hx 2 (by omega)
  have u3 := hx 3 (by omega)
  have u4 := hx 4 (by omega)
  have u5 := hx 5 (by omega)
  have u6 := hx 6 (by omega)
  simp only [lvn, lv4, Int.reducePow, Nat.reduceAdd, low_small (x := x) (n := 7) (j := 0) (by omega) (by omega), low_small (x := x) (n := 7) (j := 1) (by omega) (by omega), low_small (x := x) (n := 7) (j := 2) (by omega) (by omega), low_3 (x := x) (n := 7) (by omega), hi_mid (n := 7) (j := 0) (by omega) u3 u4, hi_mid (n := 7) (j := 1) (by omega) u4 u5, hi_mid (n := 7) (j := 2) (by omega) u5 u6, hi_last (n := 7) (j := 3) (by omega) x]
  unfold U1 at *
  generalize x 0 = a0 at *
  generalize x 1 = a1 at *
  generalize x 2 = a2 at *
  generalize x 3 = a3 at *
  generalize x 4 = a4 at *
  generalize x 5 = a5 at *
  generalize x 6 = a6 at *
  clear hx
  omega
theorem split_v8 {x : Nat → Int} (hx : ∀ j, j < 8 → U1 (x j)) : lvn 8 x = lv4 (lowF 8 x) + 7237005577332262213973186563042994240829374041602535252466099000494570602496 * lvn 5 (hiF 8 x) := by
  have u0 := hx 0 (by omega)
  have u1 := hx 1 (by omega)
  have u2 := hx 2 (by omega)
  have u3 := hx 3 (by omega)
  have u4 := hx 4 (by omega)
  have u5 := hx 5 (by omega)
  have u6 := hx 6 (by omega)
  have u7 := hx 7 (by omega)
  simp only [lvn, lv4, Int.reducePow, Nat.reduceAdd, low_small (x := x) (n := 8) (j := 0) (by omega) (by omega), low_small (x := x) (n := 8) (j := 1) (by omega) (by omega), low_small (x := x) (n := 8) (j := 2) (by omega) (by omega), low_3 (x := x) (n := 8) (by omega), hi_mid (n := 8) (j := 0) (by omega) u3 u4, hi_mid (n := 8) (j := 1) (by omega) u4 u5, hi_mid (n := 8) (j := 2) (by omega) u5 u6, hi_mid (n := 8) (j := 3) (by omega) u6 u7, hi_last (n := 8) (j := 4) (by omega) x]
  unfold U1 at *
  generalize x 0 = a0 at *
  generalize x 1 = a1 at *
  generalize x 2 = a2 at *
  generalize x 3 = a3 at *
  generalize x 4 = a4 at *
  generalize x 5 = a5 at *
  generalize x 6 = a6 at *
  generalize x 7 = a7 at *
  clear hx
  omega
theorem split_v2 {x : Nat → Int} : lvn 2 x = lv4 (lowF 2 x) := by
  simp only [lvn, lv4, Int.reducePow, low_small (x := x) (n := 2) (j := 0) (by omega) (by omega), low_small (x := x) (n := 2) (j := 1) (by omega) (by omega), low_none (x := x) (n := 2) (j := 2) (by omega) (by omega), low_3n (x := x) (n := 2) (by omega)]
  omega
theorem split_v3 {x : Nat → Int} : lvn 3 x = lv4 (lowF 3 x) := by
  simp only [lvn, lv4, Int.reducePow, low_small (x := x) (n := 3) (j := 0) (by omega) (by omega), low_small (x := x) (n := 3) (j := 1) (by omega) (by omega), low_small (x := x) (n := 3) (j := 2) (by omega) (by omega), low_3n (x := x) (n := 3) (by omega)]
  omega
end Go.Proofs.YtnoehjibponofaaDoor

/-
  reduce: what it comes to, as a number. Conditions: none.
-/
namespace Go.Proofs.YtnoehjibponofaaDoor
open Go.Ev
/-- The order L. -/
def LL : Int := 7237005577332262213973186563042994240857116359379907606001950938285454250989
/-- The words of a number. -/
def wF (n : Int) : Nat → Int := fun j => n / 18446744073709551616 ^ j % 18446744073709551616
theorem words_at {a : Nat → Int} (ha : u4 a = true) : ∀ j, j < 4 → a j = wF (lv4 a) j := by
  have A := u4_at ha
  have a0 := A 0 (by omega); have a1 := A 1 (by omega); have a2 := A 2 (by omega); have a3 := A 3 (by omega)
  intro j hj
  have : j = 0 ∨ j = 1 ∨ j = 2 ∨ j = 3 := by omega
  unfold wF lv4
  clear A ha
  rcases this with rfl | rfl | rfl | rfl <;> simp only [Int.reducePow] <;> omega
theorem ints_eq {k : IntKind} {n : Nat} {f g : Nat → Int} (h : ∀ j, j < n → f j = g j) : (V.ints k n f).den z0 = (V.ints k n g).den z0 := by
  simp only [V.den]
  congr 2
  apply List.map_congr_left
  intro j hj
  rw [h j (List.mem_range.1 hj)]
theorem words_eq {a : Nat → Int} (ha : u4 a = true) : (V.ints .u64 4 a).den z0 = (V.ints .u64 4 (wF (lv4 a))).den z0 := ints_eq (words_at ha)
theorem wF_u4 (n : Int) : u4 (wF n) = true := u4_mk fun j _ => ⟨by unfold wF; omega, by unfold wF; omega⟩
theorem wF_v {n : Int} (h0 : 0 ≤ n) (h : n < 115792089237316195423570985008687907853269984665640564039457584007913129639936) : lv4 (wF n) = n := by
  unfold lv4 wF
  simp only [Int.reducePow]
  omega
theorem lv4_congr {a b : Nat → Int} (h : ∀ j, j < 4 → a j = b j) : lv4 a = lv4 b := by
  unfold lv4
  rw [h 0 (by omega), h 1 (by omega), h 2 (by omega), h 3 (by omega)]
theorem u4_congr {a b : Nat → Int} (h : ∀ j, j < 4 → a j = b j) : u4 a = u4 b := by
  unfold u4
  rw [h 0 (by omega), h 1 (by omega), h 2 (by omega), h 3 (by omega)]
theorem plus_small {x y : Nat → Int} (hx : u4 x = true) (hy : u4 y = true) (h : lv4 x + lv4 y < 115792089237316195423570985008687907853269984665640564039457584007913129639936) : lv4 (plusF x y) = lv4 x + lv4 y ∧ u4 (plusF x y) = true := by
  obtain ⟨h1, h2⟩ := plus_v hx hy
  have h3 := lv4_nn h2
  have h4 := pc_nn x y 4
  exact ⟨by omega, h2⟩
theorem fold0 {S x : Nat → Int} {n : Nat} (h0 : u4 (sh 0 S) = true) (h4 : u4 (sh 4 S) = true) (hl : u4 (lowF n x) = true) (h : lv4 (sh 0 S) + lv4 (lowF n x) < 115792089237316195423570985008687907853269984665640564039457584007913129639936) :
    u4 (sh 0 (fold S 0 n x)) = true ∧ u4 (sh 4 (fold S 0 n x)) = true ∧ lv4 (sh 0 (fold S 0 n x)) = lv4 (sh 0 S) + lv4 (lowF n x) ∧ lv4 (sh 4 (fold S 0 n x)) = lv4 (sh 4 S) := by
  obtain ⟨p1, p2⟩ := plus_small h0 hl h
  have e0 : ∀ j, j < 4 → sh 0 (fold S 0 n x) j = plusF (sh 0 S) (lowF n x) j := by
    intro j hj
    unfold fold
    rw [plusO_eq, sh_at, spl_at _ _ _ _ _ _ (by omega), if_pos (by omega)]
    rw [show 0 + j - 0 = j by omega]
  have e4 : ∀ j, j < 4 → sh 4 (fold S 0 n x) j = sh 4 S j := by
    intro j hj
    unfold fold
    rw [sh_at, spl_at _ _ _ _ _ _ (by omega), if_neg (by omega), sh_at]
  rw [u4_congr e0, u4_congr e4, lv4_congr e0, lv4_congr e4]
  exact ⟨p2, h4, p1, rfl⟩
theorem fold4 {S x : Nat → Int} {n : Nat} (h0 : u4 (sh 0 S) = true) (h4 : u4 (sh 4 S) = true) (hl : u4 (lowF n x) = true) (h : lv4 (sh 4 S) + lv4 (lowF n x) < 115792089237316195423570985008687907853269984665640564039457584007913129639936) :
    u4 (sh 0 (fold S 4 n x)) = true ∧ u4 (sh 4 (fold S 4 n x)) = true ∧ lv4 (sh 0 (fold S 4 n x)) = lv4 (sh 0 S) ∧ lv4 (sh 4 (fold S 4 n x)) = lv4 (sh 4 S) + lv4 (lowF n x) := by
  obtain ⟨p1, p2⟩ := plus_small h4 hl h
  have e0 : ∀ j, j < 4 → sh 0 (fold S 4 n x) j = sh 0 S j := by
    intro j hj
    unfold fold
    rw [sh_at, spl_at _ _ _ _ _ _ (by omega), if_neg (by omega), sh_at]
  have e4 : ∀ j, j < 4 → sh 4 (fold S 4 n x) j = plusF (sh 4 S) (lowF n x) j := by
    intro j hj
    unfold fold
    rw [plusO_eq, sh_at, spl_at _ _ _ _ _ _ (by omega), if_pos (by omega)]
    rw [show 4 + j - 4 = j by omega]
  rw [u4_congr e0, u4_congr e4, lv4_congr e0, lv4_congr e4]
  exact ⟨h0, p2, rfl, p1⟩
theorem Z0_u : u4 (sh 0 Z0) = true ∧ u4 (sh 4 Z0) = true ∧ lv4 (sh 0 Z0) = 0 ∧ lv4 (sh 4 Z0) = 0 := ⟨by decide, by decide, by decide, by decide⟩
theorem u4O_t {a : Nat → Int} (h : u4 a = true) : u4O a = true := by rw [u4O_eq]; exact h
theorem both {a b : Bool} (ha : a = true) (hb : b = true) : (a && b) = true := by rw [ha, hb]; rfl
/-- The four folds. -/
theorem fold_all {f x1 x2 x3 : Nat → Int} {n0 n1 n2 n3 : Nat} (h0 : ∀ j, j < n0 → U1 (f j)) (h1 : ∀ j, j < n1 → U1 (x1 j)) (h2 : ∀ j, j < n2 → U1 (x2 j)) (h3 : ∀ j, j < n3 → U1 (x3 j)) :
    (u4O (sh 0 Z0) && u4O (lowF n0 f)) = true ∧ (u4O (sh 4 (fold Z0 0 n0 f)) && u4O (lowF n1 x1)) = true ∧ (u4O (sh 0 (fold (fold Z0 0 n0 f) 4 n1 x1)) && u4O (lowF n2 x2)) = true ∧
    (u4O (sh 4 (fold (fold (fold Z0 0 n0 f) 4 n1 x1) 0 n2 x2)) && u4O (lowF n3 x3)) = true ∧ u4 (sh 0 (redS f x1 x2 x3 n0 n1 n2 n3)) = true ∧ u4 (sh 4 (redS f x1 x2 x3 n0 n1 n2 n3)) = true ∧
    lv4 (sh 0 (redS f x1 x2 x3 n0 n1 n2 n3)) = lv4 (lowF n0 f) + lv4 (lowF n2 x2) ∧ lv4 (sh 4 (redS f x1 x2 x3 n0 n1 n2 n3)) = lv4 (lowF n1 x1) + lv4 (lowF n3 x3) := by
  obtain ⟨u0, b0, c0⟩ := low_v h0; obtain ⟨u1, b1, c1⟩ := low_v h1; obtain ⟨u2, b2, c2⟩ := low_v h2; obtain ⟨u3, b3, c3⟩ := low_v h3
  obtain ⟨z0, z4, y0, y4⟩ := Z0_u
  unfold redS
  obtain ⟨p1, p2, p3, p4⟩ := fold0 (S := Z0) (x := f) (n := n0) z0 z4 u0 (by omega)
  have g0 := both (u4O_t z0) (u4O_t u0)
  generalize fold Z0 0 n0 f = S0 at *
  obtain ⟨q1, q2, q3, q4⟩ := fold4 (S := S0) (x := x1) (n := n1) p1 p2 u1 (by omega)
  have g1 := both (u4O_t p2) (u4O_t u1)
  generalize fold S0 4 n1 x1 = S1 at *
  obtain ⟨r1, r2, r3, r4⟩ := fold0 (S := S1) (x := x2) (n := n2) q1 q2 u2 (by omega)
  have g2 := both (u4O_t q1) (u4O_t u2)
  generalize fold S1 0 n2 x2 = S2 at *
  obtain ⟨t1, t2, t3, t4⟩ := fold4 (S := S2) (x := x3) (n := n3) r1 r2 u3 (by omega)
  have g3 := both (u4O_t r2) (u4O_t u3)
  exact ⟨g0, g1, g2, g3, t1, t2, by omega, by omega⟩
/-- What is behind the folds. -/
theorem redM_v {o S : Nat → Int} {a b : Int} (ho : eqN 4 o ordF = true) (h0 : u4 (sh 0 S) = true) (h4 : u4 (sh 4 S) = true) (ha : lv4 (sh 0 S) = a) (hb : lv4 (sh 4 S) = b) (ha1 : a < 14474011154664524427946373126085988481658748083205070504932198000989141204992) (hb1 : b < 14474011154664524427946373126085988481658748083205070504932198000989141204992) :
    (u4O o && u4O o) = true ∧ (u4O (sh 0 S) && u4O (plusO o o)) = true ∧ (u4O (redM o S) && eqN 4 o ordF) = true ∧ (V.ints .u64 4 (belO o (redM o S))).den z0 = (V.ints .u64 4 (wF ((a - b) % LL))).den z0 := by
  obtain ⟨o1, o2⟩ := eq_ord ho
  obtain ⟨p1, p2⟩ := plus_small o1 o1 (by omega)
  have n0 := lv4_nn h0; have n4 := lv4_nn h4
  obtain ⟨q1, q2⟩ := plus_small h0 p2 (by omega)
  have m0 := minus_ge q2 h4 (by omega)
  have m1 := (minus_v q2 h4).2
  have e : redM o S = minusF (plusF (sh 0 S) (plusF o o)) (sh 4 S) := by unfold redM; rw [minusO_eq, plusO_eq]
  have f := fin_ok m1 ho
  rw [e, belO_eq, plusO_eq]
  refine ⟨both (u4O_t o1) (u4O_t o1), both (u4O_t h0) (u4O_t p2), both (u4O_t m1) ho, ?_⟩
  rw [words_eq f.1, f.2.1, m0.1]
  have : (lv4 (plusF (sh 0 S) (plusF o o)) - lv4 (sh 4 S)) % 7237005577332262213973186563042994240857116359379907606001950938285454250989 = (a - b) % LL := by
    rw [q1, p1, o2, ha, hb]
    unfold LL
    omega
  rw [this]
theorem rest_U : ∀ j, j < 2 → U1 (restF j) := by
  intro j hj
  have : j = 0 ∨ j = 1 := by omega
  rcases this with rfl | rfl <;> exact ⟨by decide, by decide⟩
theorem rest_v : lvn 2 restF = 27742317777372353535851937790883648493 := by decide
theorem nx_eq (n : Nat) (x h : Nat → Int) : nx n x h = timesR (hiF n x) restF 2 (n - 3) := by
  unfold nx
  refine times_congr fun j hj => ?_
  rw [apx_at, if_pos hj]
/-- A fold as a number: the words above, times what 2^252 is less L. -/
theorem nx_v {n : Nat} {x : Nat → Int} (h : Nat → Int) (hx : ∀ j, j < n → U1 (x j)) : (∀ j, U1 (nx n x h j)) ∧ lvn (n - 3 + 2) (nx n x h) = lvn (n - 3) (hiF n x) * 27742317777372353535851937790883648493 := by
  have := times_v (n := 2) rest_U (n - 3) (f := hiF n x) (fun j hj => hi_U hx j (by omega))
  rw [nx_eq, ← rest_v]
  exact this
theorem lvn_nn {f : Nat → Int} : ∀ {n : Nat}, (∀ j, j < n → U1 (f j)) → 0 ≤ lvn n f ∧ lvn n f < 18446744073709551616 ^ n
  | 0, _ => ⟨by simp [lvn], by simp [lvn]⟩
  | n + 1, h => by
    obtain ⟨h1, h2⟩ := lvn_nn (n := n) (fun j hj => h j (by omega))
    obtain ⟨a, b⟩ := h n (by omega)
    have hp : (0 : Int) < 18446744073709551616 ^ n := Int.pow_pos (by omega)
    have hm : 0 ≤ f n * 18446744073709551616 ^ n := Int.mul_nonneg a (by omega)
    have hm2 : f n * 18446744073709551616 ^ n ≤ 18446744073709551615 * 18446744073709551616 ^ n := Int.mul_le_mul_of_nonneg_right (by omega) (by omega)
    rw [lvn, Int.pow_succ]
    omega
theorem red8_v {o f h0 h1 h2 : Nat → Int} (hf : ∀ j, j < 8 → U1 (f j)) (ho : eqN 4 o ordF = true) :
    (u4O o && u4O o) = true ∧ (u4O (sh 0 (redS f (nx 8 f h0) (nx 7 (nx 8 f h0) h1) (nx 6 (nx 7 (nx 8 f h0) h1) h2) 8 7 6 5)) && u4O (plusO o o)) = true ∧ (u4O (redM o (redS f (nx 8 f h0) (nx 7 (nx 8 f h0) h1) (nx 6 (nx 7 (nx 8 f h0) h1) h2) 8 7 6 5)) && eqN 4 o ordF) = true ∧
    (V.ints .u64 4 (belO o (redM o (redS f (nx 8 f h0) (nx 7 (nx 8 f h0) h1) (nx 6 (nx 7 (nx 8 f h0) h1) h2) 8 7 6 5)))).den z0 = (V.ints .u64 4 (wF (lvn 8 f % LL))).den z0 := by
  obtain ⟨v1, e1⟩ := nx_v h0 hf
  generalize nx 8 f h0 = x1 at *
  obtain ⟨v2, e2⟩ := nx_v (n := 7) (x := x1) h1 (fun j _ => v1 j)
  generalize nx 7 x1 h1 = x2 at *
  obtain ⟨v3, e3⟩ := nx_v (n := 6) (x := x2) h2 (fun j _ => v2 j)
  generalize nx 6 x2 h2 = x3 at *
  obtain ⟨-, -, -, -, a1, a2, a3, a4⟩ := fold_all (n0 := 8) (n1 := 7) (n2 := 6) (n3 := 5) hf (fun j _ => v1 j) (fun j _ => v2 j) (fun j _ => v3 j)
  have s0 := split_v8 hf
  have s1 := split_v7 (x := x1) (fun j _ => v1 j)
  have s2 := split_v6 (x := x2) (fun j _ => v2 j)
  have s3 := split_v5 (x := x3) (fun j _ => v3 j)
  have l0 := low_v hf
  have l1 := low_v (n := 7) (x := x1) (fun j _ => v1 j)
  have l2 := low_v (n := 6) (x := x2) (fun j _ => v2 j)
  have l3 := low_v (n := 5) (x := x3) (fun j _ => v3 j)
  have b0 := lvn_nn hf
  have p0 := lvn_nn (n := 5) (f := hiF 8 f) (fun j hj => hi_U hf j (by omega))
  have p1 := lvn_nn (n := 4) (f := hiF 7 x1) (fun j hj => hi_U (fun j _ => v1 j) j (by omega))
  have p2 := lvn_nn (n := 3) (f := hiF 6 x2) (fun j hj => hi_U (fun j _ => v2 j) j (by omega))
  have p3 := lvn_nn (n := 2) (f := hiF 5 x3) (fun j hj => hi_U (fun j _ => v3 j) j (by omega))
  simp only [Int.reducePow] at b0
  have r := redM_v ho a1 a2 a3 a4 (by omega) (by omega)
  have e : (lv4 (lowF 8 f) + lv4 (lowF 6 x2) - (lv4 (lowF 7 x1) + lv4 (lowF 5 x3))) % LL = lvn 8 f % LL := by
    simp only [Nat.reduceSub, Nat.reduceAdd] at e1 e2 e3
    unfold LL
    have q0 := p0.1; have q1 := p1.1; have q2 := p2.1; have q3 := p3.1
    clear p0 p1 p2 p3 r a1 a2 a3 a4
    obtain ⟨-, l0, l0'⟩ := l0; obtain ⟨-, l1, l1'⟩ := l1; obtain ⟨-, l2, l2'⟩ := l2; obtain ⟨-, l3, l3'⟩ := l3
    generalize lv4 (lowF 8 f) = L0 at *; generalize lv4 (lowF 7 x1) = L1 at *; generalize lv4 (lowF 6 x2) = L2 at *; generalize lv4 (lowF 5 x3) = L3 at *
    generalize lvn 5 (hiF 8 f) = H0 at *; generalize lvn 4 (hiF 7 x1) = H1 at *; generalize lvn 3 (hiF 6 x2) = H2 at *; generalize lvn 2 (hiF 5 x3) = H3 at *
    generalize lvn 8 f = X at *; generalize lvn 7 x1 = X1 at *; generalize lvn 6 x2 = X2 at *; generalize lvn 5 x3 = X3 at *
    have z : H3 = 0 := by omega
    have : X = L0 + L2 - (L1 + L3) + 7237005577332262213973186563042994240857116359379907606001950938285454250989 * (H0 - H1 + H2) := by omega
    rw [this, Int.add_mul_emod_self_left]
  rw [e] at r
  exact r
theorem red4_v {o f h0 : Nat → Int} (hf : ∀ j, j < 4 → U1 (f j)) (ho : eqN 4 o ordF = true) :
    (u4O o && u4O o) = true ∧ (u4O (sh 0 (redS f (nx 4 f h0) Z0 Z0 4 3 2 2)) && u4O (plusO o o)) = true ∧ (u4O (redM o (redS f (nx 4 f h0) Z0 Z0 4 3 2 2)) && eqN 4 o ordF) = true ∧
    (V.ints .u64 4 (belO o (redM o (redS f (nx 4 f h0) Z0 Z0 4 3 2 2)))).den z0 = (V.ints .u64 4 (wF (lvn 4 f % LL))).den z0 := by
  obtain ⟨v1, e1⟩ := nx_v h0 hf
  generalize nx 4 f h0 = x1 at *
  have vz : ∀ j, U1 (Z0 j) := fun j => ⟨by show (0 : Int) ≤ 0; decide, by show (0 : Int) < _; decide⟩
  obtain ⟨-, -, -, -, a1, a2, a3, a4⟩ := fold_all (n0 := 4) (n1 := 3) (n2 := 2) (n3 := 2) hf (fun j _ => v1 j) (fun j _ => vz j) (fun j _ => vz j)
  have s0 := split_v4 hf
  have s1 := split_v3 (x := x1)
  have s2 := split_v2 (x := Z0)
  have z2 : lvn 2 Z0 = 0 := by decide
  have l0 := low_v hf
  have l1 := low_v (n := 3) (x := x1) (fun j _ => v1 j)
  have b0 := lvn_nn hf
  have q0 := (lvn_nn (n := 1) (f := hiF 4 f) (fun j hj => hi_U hf j (by omega))).1
  simp only [Int.reducePow] at b0
  have r := redM_v ho a1 a2 a3 a4 (by omega) (by omega)
  have e : (lv4 (lowF 4 f) + lv4 (lowF 2 Z0) - (lv4 (lowF 3 x1) + lv4 (lowF 2 Z0))) % LL = lvn 4 f % LL := by
    simp only [Nat.reduceSub, Nat.reduceAdd] at e1
    unfold LL
    have : lvn 4 f = lv4 (lowF 4 f) + lv4 (lowF 2 Z0) - (lv4 (lowF 3 x1) + lv4 (lowF 2 Z0)) + 7237005577332262213973186563042994240857116359379907606001950938285454250989 * lvn 1 (hiF 4 f) := by omega
    rw [this, Int.add_mul_emod_self_left]
  rw [e] at r
  exact r
end Go.Proofs.YtnoehjibponofaaDoor

/-
  reduce, mod: contracts. Conditions: none.
-/
namespace Go.Proofs.YtnoehjibponofaaDoor
open Go.Ev
def uN : Nat → (Nat → Int) → Bool
  | 0, _ => true
  | n + 1, f => uN n f && u1 (f n)
theorem uN_at {f : Nat → Int} : ∀ {n : Nat}, uN n f = true → ∀ j, j < n → U1 (f j)
  | 0, _, j, hj => by omega
  | n + 1, h, j, hj => by
    simp only [uN, Bool.and_eq_true] at h
    by_cases e : j = n
    · subst e; simpa [u1, U1] using h.2
    · exact uN_at h.1 j (by omega)
theorem uN_mk {f : Nat → Int} : ∀ {n : Nat}, (∀ j, j < n → U1 (f j)) → uN n f = true
  | 0, _ => rfl
  | n + 1, h => by
    simp only [uN, Bool.and_eq_true]
    exact ⟨uN_mk fun j hj => h j (by omega), by simpa [u1, U1] using h n (by omega)⟩
noncomputable def uNO : Nat → (Nat → Int) → Bool := Classical.choose (hide_ex uN)
theorem uNO_eq : uNO = uN := Classical.choose_spec (hide_ex uN)
noncomputable def redO : Nat → (Nat → Int) → Nat → Int := Classical.choose (hide_ex fun n f => wF (lvn n f % LL))
theorem redO_eq : redO = fun n f => wF (lvn n f % LL) := Classical.choose_spec (hide_ex fun n f => wF (lvn n f % LL))
theorem red8_a {e c : Nat} {o f : Nat → Int} (hf : uNO 8 f = true) (ho : eqN 4 o ordF = true) : awp Tryd.prog q52 G47 300 (body Tryd.f40) (ends Tryd.prog Tryd.f40 fun v _ => okV (V.ints .u64 4 (redO 8 f)) v) ⟨[V.sl 1 0 8 c] ++ List.replicate 55 V.un, [V.tup [V.fn 2, V.ints .u64 4 o], V.tup [V.ints .u64 (e + 8) f]]⟩ := by
  rw [uNO_eq] at hf
  have hf := uN_at hf
  rw [red8_t]
  intro e0 h0
  have v1 := (nx_v h0 hf).1
  refine gm (fold_all (x1 := Z0) (x2 := Z0) (x3 := Z0) (n1 := 0) (n2 := 0) (n3 := 0) hf (by omega) (by omega) (by omega)).1 fun e1 h1 => ?_
  have v2 := (nx_v (n := 7) (x := nx 8 f h0) h1 (fun j _ => v1 j)).1
  refine gm (fold_all (x2 := Z0) (x3 := Z0) (n1 := 7) (n2 := 0) (n3 := 0) hf (fun j _ => v1 j) (by omega) (by omega)).2.1 fun e2 h2 => ?_
  have v3 := (nx_v (n := 6) (x := nx 7 (nx 8 f h0) h1) h2 (fun j _ => v2 j)).1
  refine gm (fold_all (x3 := Z0) (n1 := 7) (n2 := 6) (n3 := 0) hf (fun j _ => v1 j) (fun j _ => v2 j) (by omega)).2.2.1 fun e3 h3 => ?_
  refine gm (fold_all (n1 := 7) (n2 := 6) (n3 := 5) hf (fun j _ => v1 j) (fun j _ => v2 j) (fun j _ => v3 j)).2.2.2.1 ?_
  obtain ⟨r1, r2, r3, r4⟩ := red8_v (h0 := h0) (h1 := h1) (h2 := h2) hf ho
  refine gm r1 (gm r2 (gm r3 ?_))
  rw [redO_eq]
  unfold redS at r4
  exact r4
theorem red4_a {e c : Nat} {o f : Nat → Int} (hf : uNO 4 f = true) (ho : eqN 4 o ordF = true) : awp Tryd.prog q52 G47 300 (body Tryd.f40) (ends Tryd.prog Tryd.f40 fun v _ => okV (V.ints .u64 4 (redO 4 f)) v) ⟨[V.sl 1 0 4 c] ++ List.replicate 55 V.un, [V.tup [V.fn 2, V.ints .u64 4 o], V.tup [V.ints .u64 (e + 4) f]]⟩ := by
  rw [uNO_eq] at hf
  have hf := uN_at hf
  rw [red4_t]
  intro e0 h0
  have v1 := (nx_v h0 hf).1
  have vz : ∀ j, U1 (Z0 j) := fun j => ⟨by show (0 : Int) ≤ 0; decide, by show (0 : Int) < _; decide⟩
  obtain ⟨g0, g1, g2, g3, -⟩ := fold_all (n0 := 4) (n1 := 3) (n2 := 2) (n3 := 2) hf (fun j _ => v1 j) (fun j _ => vz j) (fun j _ => vz j)
  refine gm g0 (gm g1 (gm g2 (gm g3 ?_)))
  obtain ⟨r1, r2, r3, r4⟩ := red4_v (h0 := h0) hf ho
  refine gm r1 (gm r2 (gm r3 ?_))
  rw [redO_eq]
  unfold redS at r4
  exact r4
noncomputable def g40 : List V → List V → Option (Bool × V) := fun vs m => match views [2] vs m with
  | some ([.sl 1 0 8 _], [.tup [.fn 2, .ints .u64 4 o], .tup [.ints .u64 N f]]) => some (Nat.ble 8 N && (uNO 8 f && eqN 4 o ordF), .ints .u64 4 (redO 8 f))
  | some ([.sl 1 0 4 _], [.tup [.fn 2, .ints .u64 4 o], .tup [.ints .u64 N f]]) => some (Nat.ble 4 N && (uNO 4 f && eqN 4 o ordF), .ints .u64 4 (redO 4 f))
  | _ => none
theorem g40_ok (vs m : List V) (v : V) (h : g40 vs m = some (true, v)) : v.flat = true ∧ ∀ μ B w0 w, Under B w0 → Rel μ B w0 m w → PureAt Tryd.prog 40 (vs.map (V.den μ)).toArray (v.den μ) w := by
  unfold g40 at h
  split at h
  · rename_i c o N f hv
    simp only [Option.some.injEq, Prod.mk.injEq, Bool.and_eq_true] at h
    obtain ⟨⟨h1, h2, h3⟩, rfl⟩ := h
    have h1 := bleT.1 h1
    obtain ⟨e, rfl⟩ : ∃ e, N = e + 8 := ⟨N - 8, by omega⟩
    exact ⟨rfl, reads_ok (fn := Tryd.f40) (N := 300) (n := 55) hM q52_ok G47_ok Tryd.func40 (by kernel_rfl) (by kernel_rfl) hv rfl (red8_a h2 h3) (by kernel_rfl)⟩
  · rename_i c o N f hv
    simp only [Option.some.injEq, Prod.mk.injEq, Bool.and_eq_true] at h
    obtain ⟨⟨h1, h2, h3⟩, rfl⟩ := h
    have h1 := bleT.1 h1
    obtain ⟨e, rfl⟩ : ∃ e, N = e + 4 := ⟨N - 4, by omega⟩
    exact ⟨rfl, reads_ok (fn := Tryd.f40) (N := 300) (n := 55) hM q52_ok G47_ok Tryd.func40 (by kernel_rfl) (by kernel_rfl) hv rfl (red4_a h2 h3) (by kernel_rfl)⟩
  · cases h
theorem g40_grow (vs m : List V) (z : V) (r : Bool × V) (h : g40 vs m = some r) : g40 vs (m ++ [z]) = some r := by
  unfold g40 at h ⊢
  cases hv : views [2] vs m with
  | none => rw [hv] at h; cases h
  | some p => rw [hv] at h; rw [views_grow hv]; exact h
noncomputable def p40 : Orc := extM 40 g40 q52
theorem p40_ok : OrcOK Tryd.prog p40 := extM_ok q52_ok g40_ok g40_grow
/- load, store by names that are not unfolded -/
noncomputable def loadO : (Nat → Int) → Nat → Int := Classical.choose (hide_ex loadF)
theorem loadO_eq : loadO = loadF := Classical.choose_spec (hide_ex loadF)
noncomputable def storeO : (Nat → Int) → Nat → Int := Classical.choose (hide_ex storeF)
theorem storeO_eq : storeO = storeF := Classical.choose_spec (hide_ex storeF)
noncomputable def g44O : List V → Option (Bool × V) := fun | [.ints .u8 32 f] => some (true, .ints .u64 4 (loadO f)) | _ => none
theorem g44O_eq : g44O = g44 := by
  funext vs
  unfold g44O g44
  simp only [loadO_eq]
  kernel_rfl
noncomputable def g39O : List V → Option (Bool × V) := fun | [.ints .u64 4 x] => some (true, .ints .u8 32 (storeO x)) | _ => none
theorem g39O_eq : g39O = g39 := by
  funext vs
  unfold g39O g39
  simp only [storeO_eq]
  kernel_rfl
noncomputable def q44 : Orc := ext 44 g44O p40
theorem q44_ok : OrcOK Tryd.prog q44 := by unfold q44; rw [g44O_eq]; exact ext_ok p40_ok g44_ok
noncomputable def q39 : Orc := ext 39 g39O q44
theorem q39_ok : OrcOK Tryd.prog q39 := by unfold q39; rw [g39O_eq]; exact ext_ok q44_ok g39_ok
noncomputable def G48 : GOrc := inl Tryd.prog q39 300 48 Tryd.f48 (inl Tryd.prog q39 300 47 Tryd.f47 noG)
theorem G48_ok : GOrcOK Tryd.prog G48 := inl_ok hM q39_ok (inl_ok hM q39_ok (noG_ok _) Tryd.func47 (by kernel_rfl) (by kernel_rfl)) Tryd.func48 (by kernel_rfl) (by kernel_rfl)
theorem orI_U (a b : Int) : U1 (orI .u64 a b) := by
  unfold orI bits2
  rw [wrap_u64]
  exact ⟨by omega, by omega⟩
theorem ldR_U (f : Nat → Int) (a : Nat) : ∀ k, U1 (ldR f a k)
  | 0 => ⟨by show (0 : Int) ≤ 0; decide, by show (0 : Int) < _; decide⟩
  | k + 1 => orI_U _ _
theorem loadO_U (f : Nat → Int) (j : Nat) : U1 (loadO f j) := by rw [loadO_eq]; exact ldR_U _ _ _
theorem uNO_t {n : Nat} {f : Nat → Int} (h : ∀ j, j < n → U1 (f j)) : uNO n f = true := by rw [uNO_eq]; exact uN_mk h
theorem loadO_uN (f : Nat → Int) : uNO 4 (loadO f) = true := uNO_t fun j _ => loadO_U f j
theorem loadO_u4 (f : Nat → Int) : u4 (loadO f) = true := u4_mk fun j _ => loadO_U f j
theorem mod_t (o : Nat → Int) (a : Nat → Int) : awp Tryd.prog q39 G48 300 (body Tryd.f51) (ends Tryd.prog Tryd.f51 fun v _ => okV (V.ints .u64 4 (redO 4 (loadO a))) v) ⟨[V.ints .u8 32 a] ++ List.replicate 5 V.un, [V.tup [V.fn 2, V.ints .u64 4 o]]⟩ = (gB (Nat.ble 4 4 && (uNO 4 (loadO a) && eqN 4 o ordF)) ((V.ints .u64 4 (redO 4 (loadO a))).den z0 = (V.ints .u64 4 (redO 4 (loadO a))).den z0)) := by kernel_rfl
theorem mod_a (o : Nat → Int) (a : Nat → Int) (ho : eqN 4 o ordF = true) : awp Tryd.prog q39 G48 300 (body Tryd.f51) (ends Tryd.prog Tryd.f51 fun v _ => okV (V.ints .u64 4 (redO 4 (loadO a))) v) ⟨[V.ints .u8 32 a] ++ List.replicate 5 V.un, [V.tup [V.fn 2, V.ints .u64 4 o]]⟩ := by
  rw [mod_t]
  exact (gm (both rfl (both (loadO_uN a) ho)) (rfl))
noncomputable def g51 : List V → List V → Option (Bool × V) := fun vs m => match views [2] vs m with
  | some ([.ints .u8 32 a], [.tup [.fn 2, .ints .u64 4 o]]) => some (eqN 4 o ordF, (V.ints .u64 4 (redO 4 (loadO a))))
  | _ => none
theorem g51_ok (vs m : List V) (v : V) (h : g51 vs m = some (true, v)) : v.flat = true ∧ ∀ μ B w0 w, Under B w0 → Rel μ B w0 m w → PureAt Tryd.prog 51 (vs.map (V.den μ)).toArray (v.den μ) w := by
  unfold g51 at h
  split at h
  · rename_i a o hv
    simp only [Option.some.injEq, Prod.mk.injEq] at h
    obtain ⟨h1, rfl⟩ := h
    refine ⟨rfl, ?_⟩
    exact reads_ok (fn := Tryd.f51) (N := 300) (n := 5) hM q39_ok (G48_ok) Tryd.func51 (by kernel_rfl) (by kernel_rfl) hv rfl (mod_a o a h1) (by kernel_rfl)
  · cases h
theorem g51_grow (vs m : List V) (z : V) (r : Bool × V) (h : g51 vs m = some r) : g51 vs (m ++ [z]) = some r := by
  unfold g51 at h ⊢
  cases hv : views [2] vs m with
  | none => rw [hv] at h; cases h
  | some p => rw [hv] at h; rw [views_grow hv]; exact h
noncomputable def p51 : Orc := extM 51 g51 q39
theorem p51_ok : OrcOK Tryd.prog p51 := extM_ok q39_ok g51_ok g51_grow
end Go.Proofs.YtnoehjibponofaaDoor

/-
  Scalars as numbers: what is loaded, what is stored. Conditions: none.
-/
namespace Go.Proofs.YtnoehjibponofaaDoor
open Go.Ev
/-- The bytes of a number. -/
def stF (n : Int) : Nat → Int := fun j => n / 256 ^ j % 256
/-- The number of 32 bytes. -/
noncomputable def num (a : Nat → Int) : Int := lvn 4 (loadO a)
theorem lvn4 (f : Nat → Int) : lvn 4 f = lv4 f := by
  simp only [lvn, lv4, Int.reducePow]; omega
theorem num_nn (a : Nat → Int) : 0 ≤ num a ∧ num a < 115792089237316195423570985008687907853269984665640564039457584007913129639936 := by
  have := lvn_nn (n := 4) (f := loadO a) (fun j _ => loadO_U a j)
  simp only [Int.reducePow] at this
  exact this
theorem wrap_u8 (a : Int) : IntKind.wrap .u8 a = a % 256 := by simp [IntKind.wrap, IntKind.bits, IntKind.signed]
theorem shr8 (a : Int) : shrI .u64 a 8 = a / 256 := shrU a 8 (by omega)
theorem stB_v (x : Int) : ∀ k, stB x k = x / 256 ^ k % 256 := by
  intro k
  have : ∀ k, stR x k = x / 256 ^ k := by
    intro k
    induction k with
    | zero => simp [stR]
    | succ k ih =>
      rw [stR, ih, shr8, Int.ediv_ediv_of_nonneg (Int.le_of_lt (Int.pow_pos (by omega))), Int.pow_succ]
  unfold stB
  rw [this, wrap_u8]
theorem byte_of (n : Int) (q r : Nat) (hr : r < 8) : n / 18446744073709551616 ^ q % 18446744073709551616 / 256 ^ r % 256 = n / 256 ^ (8 * q + r) % 256 := by
  have e : (256 : Int) ^ (8 * q + r) = 18446744073709551616 ^ q * 256 ^ r := by
    rw [Int.pow_add, Int.pow_mul]; rfl
  rw [e, ← Int.ediv_ediv_of_nonneg (Int.le_of_lt (Int.pow_pos (by omega)))]
  generalize n / 18446744073709551616 ^ q = x
  have : r = 0 ∨ r = 1 ∨ r = 2 ∨ r = 3 ∨ r = 4 ∨ r = 5 ∨ r = 6 ∨ r = 7 := by omega
  rcases this with rfl | rfl | rfl | rfl | rfl | rfl | rfl | rfl <;> simp only [Int.reducePow] <;> omega
theorem store_eq {x : Nat → Int} {n : Int} (h : ∀ j, j < 4 → x j = wF n j) : (V.ints .u8 32 (storeO x)).den z0 = (V.ints .u8 32 (stF n)).den z0 := by
  rw [storeO_eq]
  refine ints_eq fun j hj => ?_
  unfold storeF
  rw [stB_v, h (j / 8) (by omega)]
  unfold wF stF
  rw [byte_of n (j / 8) (j % 8) (by omega)]
  congr 3
  omega
theorem bel_n {o x : Nat → Int} (hx : u4 x = true) (ho : eqN 4 o ordF = true) : ∀ j, j < 4 → belO o x j = wF (lv4 x % LL) j := by
  obtain ⟨h1, h2, _⟩ := fin_ok hx ho
  rw [belO_eq]
  have h := words_at h1
  rw [h2] at h
  exact h
theorem red_n {n : Nat} {f : Nat → Int} : ∀ j, j < 4 → redO n f j = wF (lvn n f % LL) j := by rw [redO_eq]; exact fun _ _ => rfl
theorem LL_pos : 0 < LL := by unfold LL; decide
theorem mod_nn (a : Int) : 0 ≤ a % LL ∧ a % LL < LL := ⟨Int.emod_nonneg _ (by unfold LL; decide), Int.emod_lt_of_pos _ LL_pos⟩
theorem red_u4 (n : Nat) (f : Nat → Int) : u4 (redO n f) = true := by rw [redO_eq]; exact wF_u4 _
theorem red_lv (n : Nat) (f : Nat → Int) : lv4 (redO n f) = lvn n f % LL := by
  have h := mod_nn (lvn n f)
  rw [redO_eq]
  refine wF_v h.1 ?_
  have := h.2
  unfold LL at this ⊢
  omega
/-- What is stored is loaded again. -/
theorem orI_ld (n : Int) (q : Nat) : ∀ k, k ≤ 8 → ldR (stF n) (8 * q) k = n / 18446744073709551616 ^ q % 256 ^ k
  | 0, _ => by simp only [ldR, Int.pow_zero]; omega
  | k + 1, hk => by
    have hp : (0 : Int) < 256 ^ k := Int.pow_pos (by omega)
    have hp1 : (256 : Int) ^ (k + 1) ≤ 18446744073709551616 := by
      have h1 : (256 : Nat) ^ (k + 1) ≤ 256 ^ 8 := Nat.pow_le_pow_right (by omega) hk
      have h2 : (256 : Nat) ^ 8 = 18446744073709551616 := by decide
      have h3 : ((256 ^ (k + 1) : Nat) : Int) = 256 ^ (k + 1) := by simp
      omega
    have e256 : (256 : Int) ^ k = 2 ^ (8 * k) := by rw [Int.pow_mul]; rfl
    have hb : stF n (8 * q + k) = n / 18446744073709551616 ^ q / 256 ^ k % 256 := by
      unfold stF
      have e : (256 : Int) ^ (8 * q + k) = 18446744073709551616 ^ q * 256 ^ k := by
        rw [Int.pow_add, Int.pow_mul]; rfl
      rw [e, ← Int.ediv_ediv_of_nonneg (Int.le_of_lt (Int.pow_pos (by omega)))]
    rw [ldR, orI_ld n q k (by omega), hb]
    generalize n / 18446744073709551616 ^ q = x
    have hw : IntKind.wrap .u64 (x / 256 ^ k % 256) = x / 256 ^ k % 256 := by rw [wrap_u64]; omega
    have hlt : x % 256 ^ k < 256 ^ k := Int.emod_lt_of_pos _ hp
    have hle : x % 256 ^ k + x / 256 ^ k % 256 * 256 ^ k < 18446744073709551616 := by
      have : x / 256 ^ k % 256 * 256 ^ k ≤ 255 * 256 ^ k := Int.mul_le_mul_of_nonneg_right (by omega) (by omega)
      have e : (256 : Int) ^ (k + 1) = 256 ^ k * 256 := Int.pow_succ _ _
      omega
    have hnn : 0 ≤ x % 256 ^ k := Int.emod_nonneg _ (by omega)
    have hnn2 : 0 ≤ x / 256 ^ k % 256 * 256 ^ k := Int.mul_nonneg (by omega) (by omega)
    have hs : shlI .u64 (x / 256 ^ k % 256) ((8 * k : Nat) : Int) = x / 256 ^ k % 256 * 2 ^ (8 * k) := by
      rw [shlU _ (8 * k) (by omega), ← e256, sm _ hnn2 (by omega)]
    rw [hw, hs, or_add _ _ (8 * k) hnn (by rw [← e256]; exact hlt) (by omega) (by rw [← e256]; exact hle), ← e256]
    have e : (256 : Int) ^ (k + 1) = 256 ^ k * 256 := Int.pow_succ _ _
    rw [e]
    have h1 : x / (256 ^ k * 256) = x / 256 ^ k / 256 := (Int.ediv_ediv_of_nonneg (Int.le_of_lt hp)).symm
    have h2 := Int.mul_ediv_add_emod x (256 ^ k)
    have h3 := Int.mul_ediv_add_emod x (256 ^ k * 256)
    have h4 := Int.mul_ediv_add_emod (x / 256 ^ k) 256
    rw [h1] at h3
    generalize (256 : Int) ^ k = p at *
    generalize x / p / 256 = u at *
    generalize x / p = y at *
    generalize y % 256 = z at *
    have e1 : p * 256 * u = 256 * u * p := by rw [Int.mul_assoc, Int.mul_comm]
    have e2 : p * y = 256 * u * p + z * p := by rw [← h4, Int.mul_add, Int.mul_comm p (256 * u), Int.mul_comm p z]
    omega
theorem num_st {n : Int} (h0 : 0 ≤ n) (h1 : n < 115792089237316195423570985008687907853269984665640564039457584007913129639936) : num (stF n) = n := by
  have h : ∀ j, j < 4 → loadO (stF n) j = wF n j := by
    intro j _
    rw [loadO_eq]
    unfold loadF wF
    rw [orI_ld n j 8 (by omega)]
    simp only [Int.reducePow]
  unfold num
  rw [lvn4, lv4_congr h, wF_v h0 h1]
theorem num_mod (n : Int) : num (stF (n % LL)) = n % LL := by
  have h := mod_nn n
  refine num_st h.1 ?_
  have := h.2
  unfold LL at this ⊢
  omega
end Go.Proofs.YtnoehjibponofaaDoor

/-
  The functions of package scalar, as numbers: contracts. Conditions: none.
-/
namespace Go.Proofs.YtnoehjibponofaaDoor
open Go.Ev
noncomputable def addO : (Nat → Int) → (Nat → Int) → Nat → Int := Classical.choose (hide_ex fun a b => stF ((num a + num b) % LL))
theorem addO_eq : addO = fun a b => stF ((num a + num b) % LL) := Classical.choose_spec (hide_ex fun a b => stF ((num a + num b) % LL))
noncomputable def negO : (Nat → Int) → Nat → Int := Classical.choose (hide_ex fun a => stF (-num a % LL))
theorem negO_eq : negO = fun a => stF (-num a % LL) := Classical.choose_spec (hide_ex fun a => stF (-num a % LL))
noncomputable def mulO : (Nat → Int) → (Nat → Int) → Nat → Int := Classical.choose (hide_ex fun a b => stF (num a * num b % LL))
theorem mulO_eq : mulO = fun a b => stF (num a * num b % LL) := Classical.choose_spec (hide_ex fun a b => stF (num a * num b % LL))
noncomputable def wideO : (Nat → Int) → Nat → Int := Classical.choose (hide_ex fun w => fun j => ldR w (8 * j) 8)
theorem wideO_eq : wideO = fun w => fun j => ldR w (8 * j) 8 := Classical.choose_spec (hide_ex fun w => fun j => ldR w (8 * j) 8)
noncomputable def rdcO : (Nat → Int) → Nat → Int := Classical.choose (hide_ex fun w => stF (lvn 8 (wideO w) % LL))
theorem rdcO_eq : rdcO = fun w => stF (lvn 8 (wideO w) % LL) := Classical.choose_spec (hide_ex fun w => stF (lvn 8 (wideO w) % LL))
noncomputable def canO : (Nat → Int) → Bool := Classical.choose (hide_ex fun a => decide (num a < LL))
theorem canO_eq : canO = fun a => decide (num a < LL) := Classical.choose_spec (hide_ex fun a => decide (num a < LL))
theorem red_lt {n m : Nat} {f g : Nat → Int} : lv4 (redO n f) + lv4 (redO m g) < 115792089237316195423570985008687907853269984665640564039457584007913129639936 := by
  rw [red_lv, red_lv]
  have h := (mod_nn (lvn n f)).2; have h2 := (mod_nn (lvn m g)).2
  unfold LL at *
  omega
theorem plus_uO {n m : Nat} {f g : Nat → Int} : u4 (plusO (redO n f) (redO m g)) = true ∧ lv4 (plusO (redO n f) (redO m g)) = lvn n f % LL + lvn m g % LL := by
  rw [plusO_eq]
  obtain ⟨h1, h2⟩ := plus_small (red_u4 n f) (red_u4 m g) red_lt
  exact ⟨h2, by rw [h1, red_lv, red_lv]⟩
theorem add_leaf (a b o : Nat → Int) (ho : eqN 4 o ordF = true) : (V.ints .u8 32 (storeO (belO o (plusO (redO 4 (loadO a)) (redO 4 (loadO b)))))).den z0 = (V.ints .u8 32 (addO a b)).den z0 := by
  obtain ⟨h1, h2⟩ := plus_uO (n := 4) (m := 4) (f := loadO a) (g := loadO b)
  rw [store_eq (bel_n h1 ho), h2, addO_eq]
  have : (lvn 4 (loadO a) % LL + lvn 4 (loadO b) % LL) % LL = (num a + num b) % LL := (Int.add_emod _ _ _).symm
  rw [this]
theorem addS_t (o : Nat → Int) (a b : Nat → Int) : awp Tryd.prog p51 noG 300 (body Tryd.f25) (ends Tryd.prog Tryd.f25 fun v _ => okV (V.ints .u8 32 (addO a b)) v) ⟨[V.ints .u8 32 a, V.ints .u8 32 b] ++ List.replicate 16 V.un, [V.tup [V.fn 2, V.ints .u64 4 o]]⟩ = (gB (eqN 4 o ordF) (gB (eqN 4 o ordF) (gB (u4O (redO 4 (loadO a)) && u4O (redO 4 (loadO b))) (gB (u4O (plusO (redO 4 (loadO a)) (redO 4 (loadO b))) && eqN 4 o ordF) ((V.ints .u8 32 (storeO (belO o (plusO (redO 4 (loadO a)) (redO 4 (loadO b)))))).den z0 = (V.ints .u8 32 (addO a b)).den z0))))) := by kernel_rfl
theorem addS_a (o : Nat → Int) (a b : Nat → Int) (ho : eqN 4 o ordF = true) : awp Tryd.prog p51 noG 300 (body Tryd.f25) (ends Tryd.prog Tryd.f25 fun v _ => okV (V.ints .u8 32 (addO a b)) v) ⟨[V.ints .u8 32 a, V.ints .u8 32 b] ++ List.replicate 16 V.un, [V.tup [V.fn 2, V.ints .u64 4 o]]⟩ := by
  rw [addS_t]
  exact (gm ho (gm ho (gm (both (u4O_t (red_u4 _ _)) (u4O_t (red_u4 _ _))) (gm (both (u4O_t plus_uO.1) ho) (add_leaf a b o ho)))))
noncomputable def g25 : List V → List V → Option (Bool × V) := fun vs m => match views [2] vs m with
  | some ([.ints .u8 32 a, .ints .u8 32 b], [.tup [.fn 2, .ints .u64 4 o]]) => some (eqN 4 o ordF, (V.ints .u8 32 (addO a b)))
  | _ => none
theorem g25_ok (vs m : List V) (v : V) (h : g25 vs m = some (true, v)) : v.flat = true ∧ ∀ μ B w0 w, Under B w0 → Rel μ B w0 m w → PureAt Tryd.prog 25 (vs.map (V.den μ)).toArray (v.den μ) w := by
  unfold g25 at h
  split at h
  · rename_i a b o hv
    simp only [Option.some.injEq, Prod.mk.injEq] at h
    obtain ⟨h1, rfl⟩ := h
    refine ⟨rfl, ?_⟩
    exact reads_ok (fn := Tryd.f25) (N := 300) (n := 16) hM p51_ok (noG_ok _) Tryd.func25 (by kernel_rfl) (by kernel_rfl) hv rfl (addS_a o a b h1) (by kernel_rfl)
  · cases h
theorem g25_grow (vs m : List V) (z : V) (r : Bool × V) (h : g25 vs m = some r) : g25 vs (m ++ [z]) = some r := by
  unfold g25 at h ⊢
  cases hv : views [2] vs m with
  | none => rw [hv] at h; cases h
  | some p => rw [hv] at h; rw [views_grow hv]; exact h
noncomputable def p25 : Orc := extM 25 g25 p51
theorem p25_ok : OrcOK Tryd.prog p25 := extM_ok p51_ok g25_ok g25_grow
theorem neg_u (a : Nat → Int) {o : Nat → Int} (ho : eqN 4 o ordF = true) : u4 (minusO o (redO 4 (loadO a))) = true ∧ lv4 (minusO o (redO 4 (loadO a))) = LL - num a % LL := by
  obtain ⟨o1, o2⟩ := eq_ord ho
  rw [minusO_eq]
  have h := mod_nn (num a)
  have e : lv4 (redO 4 (loadO a)) = num a % LL := red_lv _ _
  refine ⟨(minus_v o1 (red_u4 _ _)).2, ?_⟩
  rw [(minus_ge o1 (red_u4 _ _) (by rw [e, o2]; unfold LL at *; omega)).1, e, o2]
  rfl
theorem neg_leaf (a o : Nat → Int) (ho : eqN 4 o ordF = true) : (V.ints .u8 32 (storeO (belO o (minusO o (redO 4 (loadO a)))))).den z0 = (V.ints .u8 32 (negO a)).den z0 := by
  obtain ⟨h1, h2⟩ := neg_u a ho
  rw [store_eq (bel_n h1 ho), h2, negO_eq]
  have : (LL - num a % LL) % LL = -num a % LL := by unfold LL; omega
  rw [this]
theorem negS_t (o : Nat → Int) (a : Nat → Int) : awp Tryd.prog p25 noG 300 (body Tryd.f29) (ends Tryd.prog Tryd.f29 fun v _ => okV (V.ints .u8 32 (negO a)) v) ⟨[V.ints .u8 32 a] ++ List.replicate 14 V.un, [V.tup [V.fn 2, V.ints .u64 4 o]]⟩ = (gB (eqN 4 o ordF) (gB (u4O (minusO o (redO 4 (loadO a))) && eqN 4 o ordF) ((V.ints .u8 32 (storeO (belO o (minusO o (redO 4 (loadO a)))))).den z0 = (V.ints .u8 32 (negO a)).den z0))) := by kernel_rfl
theorem negS_a (o : Nat → Int) (a : Nat → Int) (ho : eqN 4 o ordF = true) : awp Tryd.prog p25 noG 300 (body Tryd.f29) (ends Tryd.prog Tryd.f29 fun v _ => okV (V.ints .u8 32 (negO a)) v) ⟨[V.ints .u8 32 a] ++ List.replicate 14 V.un, [V.tup [V.fn 2, V.ints .u64 4 o]]⟩ := by
  rw [negS_t]
  exact (gm ho (gm (both (u4O_t (neg_u a ho).1) ho) (neg_leaf a o ho)))
noncomputable def g29 : List V → List V → Option (Bool × V) := fun vs m => match views [2] vs m with
  | some ([.ints .u8 32 a], [.tup [.fn 2, .ints .u64 4 o]]) => some (eqN 4 o ordF, (V.ints .u8 32 (negO a)))
  | _ => none
theorem g29_ok (vs m : List V) (v : V) (h : g29 vs m = some (true, v)) : v.flat = true ∧ ∀ μ B w0 w, Under B w0 → Rel μ B w0 m w → PureAt Tryd.prog 29 (vs.map (V.den μ)).toArray (v.den μ) w := by
  unfold g29 at h
  split at h
  · rename_i a o hv
    simp only [Option.some.injEq, Prod.mk.injEq] at h
    obtain ⟨h1, rfl⟩ := h
    refine ⟨rfl, ?_⟩
    exact reads_ok (fn := Tryd.f29) (N := 300) (n := 14) hM p25_ok (noG_ok _) Tryd.func29 (by kernel_rfl) (by kernel_rfl) hv rfl (negS_a o a h1) (by kernel_rfl)
  · cases h
theorem g29_grow (vs m : List V) (z : V) (r : Bool × V) (h : g29 vs m = some r) : g29 vs (m ++ [z]) = some r := by
  unfold g29 at h ⊢
  cases hv : views [2] vs m with
  | none => rw [hv] at h; cases h
  | some p => rw [hv] at h; rw [views_grow hv]; exact h
noncomputable def p29 : Orc := extM 29 g29 p25
theorem p29_ok : OrcOK Tryd.prog p29 := extM_ok p25_ok g29_ok g29_grow
theorem subS_t (o : Nat → Int) (a b : Nat → Int) : awp Tryd.prog p29 noG 300 (body Tryd.f27) (ends Tryd.prog Tryd.f27 fun v _ => okV (V.ints .u8 32 (addO a (negO b))) v) ⟨[V.ints .u8 32 a, V.ints .u8 32 b] ++ List.replicate 7 V.un, [V.tup [V.fn 2, V.ints .u64 4 o]]⟩ = (gB (eqN 4 o ordF) (gB (eqN 4 o ordF) ((V.ints .u8 32 (addO a (negO b))).den z0 = (V.ints .u8 32 (addO a (negO b))).den z0))) := by kernel_rfl
theorem subS_a (o : Nat → Int) (a b : Nat → Int) (ho : eqN 4 o ordF = true) : awp Tryd.prog p29 noG 300 (body Tryd.f27) (ends Tryd.prog Tryd.f27 fun v _ => okV (V.ints .u8 32 (addO a (negO b))) v) ⟨[V.ints .u8 32 a, V.ints .u8 32 b] ++ List.replicate 7 V.un, [V.tup [V.fn 2, V.ints .u64 4 o]]⟩ := by
  rw [subS_t]
  exact (gm ho (gm ho (rfl)))
noncomputable def g27 : List V → List V → Option (Bool × V) := fun vs m => match views [2] vs m with
  | some ([.ints .u8 32 a, .ints .u8 32 b], [.tup [.fn 2, .ints .u64 4 o]]) => some (eqN 4 o ordF, (V.ints .u8 32 (addO a (negO b))))
  | _ => none
theorem g27_ok (vs m : List V) (v : V) (h : g27 vs m = some (true, v)) : v.flat = true ∧ ∀ μ B w0 w, Under B w0 → Rel μ B w0 m w → PureAt Tryd.prog 27 (vs.map (V.den μ)).toArray (v.den μ) w := by
  unfold g27 at h
  split at h
  · rename_i a b o hv
    simp only [Option.some.injEq, Prod.mk.injEq] at h
    obtain ⟨h1, rfl⟩ := h
    refine ⟨rfl, ?_⟩
    exact reads_ok (fn := Tryd.f27) (N := 300) (n := 7) hM p29_ok (noG_ok _) Tryd.func27 (by kernel_rfl) (by kernel_rfl) hv rfl (subS_a o a b h1) (by kernel_rfl)
  · cases h
theorem g27_grow (vs m : List V) (z : V) (r : Bool × V) (h : g27 vs m = some r) : g27 vs (m ++ [z]) = some r := by
  unfold g27 at h ⊢
  cases hv : views [2] vs m with
  | none => rw [hv] at h; cases h
  | some p => rw [hv] at h; rw [views_grow hv]; exact h
noncomputable def p27 : Orc := extM 27 g27 p29
theorem p27_ok : OrcOK Tryd.prog p27 := extM_ok p29_ok g27_ok g27_grow
theorem times_44 (a b : Nat → Int) : (∀ j, U1 (timesR (loadO a) (loadO b) 4 4 j)) ∧ lvn 8 (timesR (loadO a) (loadO b) 4 4) = num a * num b :=
  times_v (n := 4) (fun j _ => loadO_U b j) 4 (fun j _ => loadO_U a j)
theorem mul_leaf (a b : Nat → Int) : (V.ints .u8 32 (storeO (redO 8 (timesR (loadO a) (loadO b) 4 4)))).den z0 = (V.ints .u8 32 (mulO a b)).den z0 := by
  rw [store_eq red_n, (times_44 a b).2, mulO_eq]
theorem mulS_t (o : Nat → Int) (a b : Nat → Int) : awp Tryd.prog p27 G48 300 (body Tryd.f21) (ends Tryd.prog Tryd.f21 fun v _ => okV (V.ints .u8 32 (mulO a b)) v) ⟨[V.ints .u8 32 a, V.ints .u8 32 b] ++ List.replicate 10 V.un, [V.tup [V.fn 2, V.ints .u64 4 o]]⟩ = (((gB (Nat.ble 8 8 && (uNO 8 (timesR (loadO a) (loadO b) 4 4) && eqN 4 o ordF)) ((V.ints .u8 32 (storeO (redO 8 (timesR (loadO a) (loadO b) 4 4)))).den z0 = (V.ints .u8 32 (mulO a b)).den z0)) ∧ (gB (Nat.ble 8 8 && (uNO 8 (timesR (loadO a) (loadO b) 4 4) && eqN 4 o ordF)) ((V.ints .u8 32 (storeO (redO 8 (timesR (loadO a) (loadO b) 4 4)))).den z0 = (V.ints .u8 32 (mulO a b)).den z0))) ∧ (gB (Nat.ble 8 8 && (uNO 8 (timesR (loadO a) (loadO b) 4 4) && eqN 4 o ordF)) ((V.ints .u8 32 (storeO (redO 8 (timesR (loadO a) (loadO b) 4 4)))).den z0 = (V.ints .u8 32 (mulO a b)).den z0))) := by kernel_rfl
theorem mulS_a (o : Nat → Int) (a b : Nat → Int) (ho : eqN 4 o ordF = true) : awp Tryd.prog p27 G48 300 (body Tryd.f21) (ends Tryd.prog Tryd.f21 fun v _ => okV (V.ints .u8 32 (mulO a b)) v) ⟨[V.ints .u8 32 a, V.ints .u8 32 b] ++ List.replicate 10 V.un, [V.tup [V.fn 2, V.ints .u64 4 o]]⟩ := by
  rw [mulS_t]
  exact ⟨⟨(gm (both rfl (both (uNO_t fun j _ => (times_44 a b).1 j) ho)) (mul_leaf a b)), (gm (both rfl (both (uNO_t fun j _ => (times_44 a b).1 j) ho)) (mul_leaf a b))⟩, (gm (both rfl (both (uNO_t fun j _ => (times_44 a b).1 j) ho)) (mul_leaf a b))⟩
noncomputable def g21 : List V → List V → Option (Bool × V) := fun vs m => match views [2] vs m with
  | some ([.ints .u8 32 a, .ints .u8 32 b], [.tup [.fn 2, .ints .u64 4 o]]) => some (eqN 4 o ordF, (V.ints .u8 32 (mulO a b)))
  | _ => none
theorem g21_ok (vs m : List V) (v : V) (h : g21 vs m = some (true, v)) : v.flat = true ∧ ∀ μ B w0 w, Under B w0 → Rel μ B w0 m w → PureAt Tryd.prog 21 (vs.map (V.den μ)).toArray (v.den μ) w := by
  unfold g21 at h
  split at h
  · rename_i a b o hv
    simp only [Option.some.injEq, Prod.mk.injEq] at h
    obtain ⟨h1, rfl⟩ := h
    refine ⟨rfl, ?_⟩
    exact reads_ok (fn := Tryd.f21) (N := 300) (n := 10) hM p27_ok (G48_ok) Tryd.func21 (by kernel_rfl) (by kernel_rfl) hv rfl (mulS_a o a b h1) (by kernel_rfl)
  · cases h
theorem g21_grow (vs m : List V) (z : V) (r : Bool × V) (h : g21 vs m = some r) : g21 vs (m ++ [z]) = some r := by
  unfold g21 at h ⊢
  cases hv : views [2] vs m with
  | none => rw [hv] at h; cases h
  | some p => rw [hv] at h; rw [views_grow hv]; exact h
noncomputable def p21 : Orc := extM 21 g21 p27
theorem p21_ok : OrcOK Tryd.prog p21 := extM_ok p27_ok g21_ok g21_grow
theorem maS_t (o : Nat → Int) (a b c : Nat → Int) : awp Tryd.prog p21 noG 300 (body Tryd.f23) (ends Tryd.prog Tryd.f23 fun v _ => okV (V.ints .u8 32 (addO (mulO a b) c)) v) ⟨[V.ints .u8 32 a, V.ints .u8 32 b, V.ints .u8 32 c] ++ List.replicate 9 V.un, [V.tup [V.fn 2, V.ints .u64 4 o]]⟩ = (gB (eqN 4 o ordF) (gB (eqN 4 o ordF) ((V.ints .u8 32 (addO (mulO a b) c)).den z0 = (V.ints .u8 32 (addO (mulO a b) c)).den z0))) := by kernel_rfl
theorem maS_a (o : Nat → Int) (a b c : Nat → Int) (ho : eqN 4 o ordF = true) : awp Tryd.prog p21 noG 300 (body Tryd.f23) (ends Tryd.prog Tryd.f23 fun v _ => okV (V.ints .u8 32 (addO (mulO a b) c)) v) ⟨[V.ints .u8 32 a, V.ints .u8 32 b, V.ints .u8 32 c] ++ List.replicate 9 V.un, [V.tup [V.fn 2, V.ints .u64 4 o]]⟩ := by
  rw [maS_t]
  exact (gm ho (gm ho (rfl)))
noncomputable def g23 : List V → List V → Option (Bool × V) := fun vs m => match views [2] vs m with
  | some ([.ints .u8 32 a, .ints .u8 32 b, .ints .u8 32 c], [.tup [.fn 2, .ints .u64 4 o]]) => some (eqN 4 o ordF, (V.ints .u8 32 (addO (mulO a b) c)))
  | _ => none
theorem g23_ok (vs m : List V) (v : V) (h : g23 vs m = some (true, v)) : v.flat = true ∧ ∀ μ B w0 w, Under B w0 → Rel μ B w0 m w → PureAt Tryd.prog 23 (vs.map (V.den μ)).toArray (v.den μ) w := by
  unfold g23 at h
  split at h
  · rename_i a b c o hv
    simp only [Option.some.injEq, Prod.mk.injEq] at h
    obtain ⟨h1, rfl⟩ := h
    refine ⟨rfl, ?_⟩
    exact reads_ok (fn := Tryd.f23) (N := 300) (n := 9) hM p21_ok (noG_ok _) Tryd.func23 (by kernel_rfl) (by kernel_rfl) hv rfl (maS_a o a b c h1) (by kernel_rfl)
  · cases h
theorem g23_grow (vs m : List V) (z : V) (r : Bool × V) (h : g23 vs m = some r) : g23 vs (m ++ [z]) = some r := by
  unfold g23 at h ⊢
  cases hv : views [2] vs m with
  | none => rw [hv] at h; cases h
  | some p => rw [hv] at h; rw [views_grow hv]; exact h
noncomputable def p23 : Orc := extM 23 g23 p21
theorem p23_ok : OrcOK Tryd.prog p23 := extM_ok p21_ok g23_ok g23_grow
theorem can_leaf (a o : Nat → Int) (ho : eqN 4 o ordF = true) : (V.bool (bcO (loadO a) o == 1)).den z0 = (V.bool (canO a)).den z0 := by
  obtain ⟨o1, o2⟩ := eq_ord ho
  have e : lv4 (loadO a) = num a := (lvn4 _).symm
  rw [bcO_eq, canO_eq]
  dsimp only
  by_cases h : num a < LL
  · rw [minus_lt (loadO_u4 a) o1 (by rw [e, o2]; exact h), decide_eq_true h]; rfl
  · rw [(minus_ge (loadO_u4 a) o1 (by rw [e, o2]; unfold LL at h; omega)).2, decide_eq_false h]; rfl
theorem canS_t (o : Nat → Int) (a : Nat → Int) : awp Tryd.prog p23 noG 300 (body Tryd.f19) (ends Tryd.prog Tryd.f19 fun v _ => okV (V.bool (canO a)) v) ⟨[V.ints .u8 32 a] ++ List.replicate 13 V.un, [V.tup [V.fn 2, V.ints .u64 4 o]]⟩ = ((V.bool (bcO (loadO a) o == 1)).den z0 = (V.bool (canO a)).den z0) := by kernel_rfl
theorem canS_a (o : Nat → Int) (a : Nat → Int) (ho : eqN 4 o ordF = true) : awp Tryd.prog p23 noG 300 (body Tryd.f19) (ends Tryd.prog Tryd.f19 fun v _ => okV (V.bool (canO a)) v) ⟨[V.ints .u8 32 a] ++ List.replicate 13 V.un, [V.tup [V.fn 2, V.ints .u64 4 o]]⟩ := by
  rw [canS_t]
  exact (can_leaf a o ho)
noncomputable def g19 : List V → List V → Option (Bool × V) := fun vs m => match views [2] vs m with
  | some ([.ints .u8 32 a], [.tup [.fn 2, .ints .u64 4 o]]) => some (eqN 4 o ordF, (V.bool (canO a)))
  | _ => none
theorem g19_ok (vs m : List V) (v : V) (h : g19 vs m = some (true, v)) : v.flat = true ∧ ∀ μ B w0 w, Under B w0 → Rel μ B w0 m w → PureAt Tryd.prog 19 (vs.map (V.den μ)).toArray (v.den μ) w := by
  unfold g19 at h
  split at h
  · rename_i a o hv
    simp only [Option.some.injEq, Prod.mk.injEq] at h
    obtain ⟨h1, rfl⟩ := h
    refine ⟨rfl, ?_⟩
    exact reads_ok (fn := Tryd.f19) (N := 300) (n := 13) hM p23_ok (noG_ok _) Tryd.func19 (by kernel_rfl) (by kernel_rfl) hv rfl (canS_a o a h1) (by kernel_rfl)
  · cases h
theorem g19_grow (vs m : List V) (z : V) (r : Bool × V) (h : g19 vs m = some r) : g19 vs (m ++ [z]) = some r := by
  unfold g19 at h ⊢
  cases hv : views [2] vs m with
  | none => rw [hv] at h; cases h
  | some p => rw [hv] at h; rw [views_grow hv]; exact h
noncomputable def p19 : Orc := extM 19 g19 p23
theorem p19_ok : OrcOK Tryd.prog p19 := extM_ok p23_ok g19_ok g19_grow
def wideF (w : Nat → Int) : Nat → Int := (up 7 (ldR w 56 8) (up 6 (ldR w 48 8) (up 5 (ldR w 40 8) (up 4 (ldR w 32 8) (up 3 (ldR w 24 8) (up 2 (ldR w 16 8) (up 1 (ldR w 8 8) (up 0 (ldR w 0 8) (fun _ => 0)))))))))
theorem wide_at (w : Nat → Int) : ∀ j, j < 8 → wideF w j = wideO w j := by
  intro j hj
  rw [wideO_eq]
  have : j = 0 ∨ j = 1 ∨ j = 2 ∨ j = 3 ∨ j = 4 ∨ j = 5 ∨ j = 6 ∨ j = 7 := by omega
  rcases this with rfl | rfl | rfl | rfl | rfl | rfl | rfl | rfl <;> rfl
theorem wide_U (w : Nat → Int) : ∀ j, j < 8 → U1 (wideF w j) := by
  intro j hj
  rw [wide_at w j hj, wideO_eq]
  exact ldR_U _ _ _
theorem rdc_leaf (w : Nat → Int) : (V.ints .u8 32 (storeO (redO 8 (wideF w)))).den z0 = (V.ints .u8 32 (rdcO w)).den z0 := by
  rw [store_eq red_n, lvn_congr (wide_at w), rdcO_eq]
theorem rdcS_t (o : Nat → Int) (w : Nat → Int) : awp Tryd.prog p19 noG 300 (body Tryd.f17) (ends Tryd.prog Tryd.f17 fun v _ => okV (V.ints .u8 32 (rdcO w)) v) ⟨[V.ints .u8 64 w] ++ List.replicate 20 V.un, [V.tup [V.fn 2, V.ints .u64 4 o]]⟩ = (gB (Nat.ble 8 8 && (uNO 8 (wideF w) && eqN 4 o ordF)) ((V.ints .u8 32 (storeO (redO 8 (wideF w)))).den z0 = (V.ints .u8 32 (rdcO w)).den z0)) := by kernel_rfl
theorem rdcS_a (o : Nat → Int) (w : Nat → Int) (ho : eqN 4 o ordF = true) : awp Tryd.prog p19 noG 300 (body Tryd.f17) (ends Tryd.prog Tryd.f17 fun v _ => okV (V.ints .u8 32 (rdcO w)) v) ⟨[V.ints .u8 64 w] ++ List.replicate 20 V.un, [V.tup [V.fn 2, V.ints .u64 4 o]]⟩ := by
  rw [rdcS_t]
  exact (gm (both rfl (both (uNO_t (wide_U w)) ho)) (rdc_leaf w))
noncomputable def g17 : List V → List V → Option (Bool × V) := fun vs m => match views [2] vs m with
  | some ([.ints .u8 64 w], [.tup [.fn 2, .ints .u64 4 o]]) => some (eqN 4 o ordF, (V.ints .u8 32 (rdcO w)))
  | _ => none
theorem g17_ok (vs m : List V) (v : V) (h : g17 vs m = some (true, v)) : v.flat = true ∧ ∀ μ B w0 w, Under B w0 → Rel μ B w0 m w → PureAt Tryd.prog 17 (vs.map (V.den μ)).toArray (v.den μ) w := by
  unfold g17 at h
  split at h
  · rename_i w o hv
    simp only [Option.some.injEq, Prod.mk.injEq] at h
    obtain ⟨h1, rfl⟩ := h
    refine ⟨rfl, ?_⟩
    exact reads_ok (fn := Tryd.f17) (N := 300) (n := 20) hM p19_ok (noG_ok _) Tryd.func17 (by kernel_rfl) (by kernel_rfl) hv rfl (rdcS_a o w h1) (by kernel_rfl)
  · cases h
theorem g17_grow (vs m : List V) (z : V) (r : Bool × V) (h : g17 vs m = some r) : g17 vs (m ++ [z]) = some r := by
  unfold g17 at h ⊢
  cases hv : views [2] vs m with
  | none => rw [hv] at h; cases h
  | some p => rw [hv] at h; rw [views_grow hv]; exact h
noncomputable def p17 : Orc := extM 17 g17 p19
theorem p17_ok : OrcOK Tryd.prog p17 := extM_ok p19_ok g17_ok g17_grow
end Go.Proofs.YtnoehjibponofaaDoor

/-
  From the listed variables to the evaluator's memory; a law's call. Conditions: none.
-/
namespace Go.Ev
open Go.RowKit Go.ChangeShapes Go.WideShapes Go.ChangeAt

/-- What a listed variable, an array of integers, holds. -/
theorem laid_ints {P : Program} {W : World} {name : String} {g : Nat} {cs : Array Value} {t e : TypeId} {k : IntKind} {n fuel : Nat} {f : Nat → Int} {p : List MemPlace} (hg : P.globalNamed name = some g) (hv : W.var? P name = some cs)
    (ht : P.underlying t = some (.array n e)) (he : P.underlying e = some (.int k)) (hc : P.cellsOf e = 1) (hd : DataW.trod (fun _ => ()) P W 0 (fun _ => true) false fuel t cs.toList = some (dArr k n f, p)) :
    ∀ j, j < n → W.cell? ⟨g, j, none⟩ = some (.int k (f j)) := by
  intro j hj
  obtain ⟨xs, m, rfl, hx, hlen, hxl, hel⟩ := DataW.trod_array ht hd
  have h1 := hel j hj
  have hxj : xs[j]? = some xs[j] := List.getElem?_eq_getElem (by omega)
  rw [hc, Nat.mul_one, hxj] at h1
  obtain ⟨q, e1, e2, _⟩ := DataW.trod_int he h1
  simp only [Prod.mk.injEq, dArr, DataW.agg.injEq] at hx
  have e3 := congrArg (fun l => l[j]?) hx.1
  simp only [List.getElem?_map, hxj, Option.map_some, e2, List.getElem?_range hj, Option.some.injEq, DataW.lit.injEq, Lit.int.injEq, true_and] at e3
  rw [World.var?_cell hg hv j]
  have e4 := congrArg (fun l => l[0]?) e1
  simp [List.getElem?_drop] at e4
  rw [e3]
  simpa using e4

/-- The memory of a call that begins: the package variables. -/
def memG (l : List (Nat × V)) : List V := l.map fun p => .tup [.fn p.1, p.2]
theorem rel_entry {W : World} {l : List (Nat × V)} (h : ∀ g u, (g, u) ∈ l → u.flat = true ∧ g < W.heap.size ∧ ∀ (j : Nat) (c : Value), (u.den z0).cells[j]? = some c → W.cell? ⟨g, j, none⟩ = some c) :
    RelM ⟨lowB W.heap.size, W, 0, fun i => ((l.getD i (0, V.un)).1, 0)⟩ (fun i => ((l.getD i (0, V.un)).1, 0)) (memG l) W := by
  refine ⟨fun μ' hμ => ?_, Agree.refl _ _, Nat.zero_le _⟩
  have hold : ∀ id v, (memG l)[id]? = some v → Held μ' (lowB W.heap.size) W id v := by
    intro id v hv
    unfold memG at hv
    rw [List.getElem?_map, Option.map_eq_some_iff] at hv
    obtain ⟨⟨g, u⟩, hp, rfl⟩ := hv
    have hid := (List.getElem?_eq_some_iff.1 hp).1
    have hm : μ' id = (g, 0) := by
      rw [hμ id (by simpa [memG] using hid)]
      simp [List.getD_eq_getElem?_getD, hp]
    obtain ⟨hf, h1, h2⟩ := h g u (List.mem_of_getElem? hp)
    unfold Held
    show lowB W.heap.size (μ' id).1 ∧ (μ' id).1 < W.heap.size ∧ _
    rw [hm]
    refine ⟨h1, h1, fun g' hg' => ?_, fun j c hc => ?_⟩
    · have : tagOf (.tup [.fn g, u]) = some g := rfl
      rw [this] at hg'
      cases hg'; rfl
    · rw [flat_den hf z0 μ'] at hc
      rw [Nat.zero_add]
      exact h2 j c hc
  refine ⟨Keeps.refl _ _, hold, fun i j hi hj hb e => ?_⟩
  exact absurd (show lowB W.heap.size (μ' i).1 from (hold i _ (List.getElem?_eq_getElem hi)).lt) hb
theorem ints_cells {W : World} {g n : Nat} {k : IntKind} {f : Nat → Int} (hn : 0 < n) (h : ∀ j, j < n → W.cell? ⟨g, j, none⟩ = some (.int k (f j))) :
    (V.ints k n f).flat = true ∧ g < W.heap.size ∧ ∀ (j : Nat) (c : Value), ((V.ints k n f).den z0).cells[j]? = some c → W.cell? ⟨g, j, none⟩ = some c := by
  refine ⟨rfl, World.block_lt_of_cell? W ⟨g, 0, none⟩ (h 0 hn), fun j c hc => ?_⟩
  rw [cells_ints] at hc
  simp only [List.getElem?_toArray, List.getElem?_map, Option.map_eq_some_iff] at hc
  obtain ⟨i, hi, rfl⟩ := hc
  obtain ⟨h1, h2⟩ := List.getElem?_eq_some_iff.1 hi
  simp at h1 h2
  subst h2
  exact h j h1

section
variable {P : Program} {F : Orc} {G : GOrc}
/-- A law's call. -/
theorem law_calls (hM : P.follows .mixedOrders = true) (hF : OrcOK P F) (hG : GOrcOK P G) {N : Nat} {f : FuncId} {fn : Func} (hf : P.funcs[f]? = some fn) (hb : fn.body.isSome = true) {l : List (Nat × V)} {args : List V} {W : World}
    (hl : ∀ g u, (g, u) ∈ l → u.flat = true ∧ g < W.heap.size ∧ ∀ (j : Nat) (c : Value), (u.den z0).cells[j]? = some c → W.cell? ⟨g, j, none⟩ = some c) (ha : V.flats args = true) {n : Nat}
    (h : awp P F G N (body fn) (ends P fn fun v _ => okV (V.bool true) v) ⟨args ++ List.replicate n V.un, memG l⟩) (hn : n = fn.ntmps - args.length) :
    Calls P f (args.map (V.den z0)).toArray W fun e W' => e = .returned (.bool true) ∧ Below W.heap.size W W' := by
  obtain ⟨c, hc⟩ := Option.isSome_iff_exists.1 hb
  have hbody : body fn = c := by simp [body, hc]
  rw [hbody] at h
  subst hn
  have hargs : ∀ μ' : Mu, (args.map (V.den z0)).toArray = (args.map (V.den μ')).toArray := by
    intro μ'
    have := flats_den ha μ' z0
    rw [dens_map, dens_map] at this
    rw [this]
  refine (calls_of_awp (C := ⟨lowB W.heap.size, W, 0, _⟩) hM hF hG hf hc (under_low (Nat.le_refl _)) (rel_entry hl) (fun μ' _ => hargs μ') h).mono fun e w' ⟨v, m', μ1, val, hK, he, hrm, hval⟩ => ?_
  have e1 := hval μ1 (Agree.refl _ _)
  unfold okV at hK
  split at hK
  · rename_i hfl
    rw [flat_den hfl z0 μ1, hK] at e1
    subst e1
    exact ⟨he, (hrm.all μ1 (Agree.refl _ _)).below.below⟩
  · exact hK.elim
end
end Go.Ev
