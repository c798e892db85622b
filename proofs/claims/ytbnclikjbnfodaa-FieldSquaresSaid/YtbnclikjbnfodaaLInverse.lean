/-
  FieldInverse answers true. Conditions: none.
-/
import Derived.Test.YtbnclikjbnfodaaWInverse
import Derived.Test.YtbnclikjbnfodaaLRing
import Derived.Test.YtbnclikjbnfodaaMField
namespace Go.Proofs.Ytbnclikjbnfodaa
open Go.Ev Go.Num

def B16 (b : Nat → Int) : Prop := ∀ j, j < 16 → 0 ≤ b j ∧ b j < 256
theorem wrap8i {a : Int} (h : 0 ≤ a ∧ a < 256) : IntKind.wrap .i64 a = a := wrap_i64 a (by omega)
/-- What goes over, in plain numbers. -/
def nO (a b : Nat → Int) : Nat → Int
  | 0 => 0
  | k + 1 => (nO a b k + a k + b k) / 256
theorem quo256 {a : Int} (h : 0 ≤ a ∧ a < 2000) : quoI .i64 a 256 = a / 256 := by
  obtain ⟨n, rfl⟩ := Int.eq_ofNat_of_zero_le h.1
  exact (quo_nat n 256 (by omega)).trans (by omega)
theorem rem256 {a : Int} (h : 0 ≤ a) : remI a 256 = a % 256 := by
  obtain ⟨n, rfl⟩ := Int.eq_ofNat_of_zero_le h
  exact (rem_nat n 256).trans (by omega)
theorem iO_v {a b : Nat → Int} (ha : B16 a) (hb : B16 b) : ∀ k, k ≤ 16 → iO a b k = nO a b k ∧ 0 ≤ nO a b k ∧ nO a b k ≤ 1
  | 0, _ => ⟨rfl, by simp [nO], by simp [nO]⟩
  | k + 1, hk => by
    obtain ⟨i1, i2, i3⟩ := iO_v ha hb k (by omega)
    have ha := ha k (by omega); have hb := hb k (by omega)
    simp only [iO, nO]
    rw [i1, wrap8i ha, wrap8i hb]
    rw [show addI .i64 (nO a b k) (a k) = nO a b k + a k from wrap_i64 _ (by omega), show addI .i64 (nO a b k + a k) (b k) = nO a b k + a k + b k from wrap_i64 _ (by omega), quo256 (by omega)]
    omega
/-- The sum's bytes, in plain numbers. -/
def nS (a b : Nat → Int) (j : Nat) : Int := if j < 16 then (nO a b j + a j + b j) % 256 else if j = 16 then nO a b 16 else 0
def nE (a : Nat → Int) (j : Nat) : Int := if j < 16 then a j else 0
theorem wrap_u8' {a : Int} (h : 0 ≤ a ∧ a < 256) : IntKind.wrap .u8 a = a := by rw [wrap_u8]; exact Int.emod_eq_of_lt h.1 h.2
theorem iS_at {a b : Nat → Int} (ha : B16 a) (hb : B16 b) {k : Nat} (hk : k < 16) :
    IntKind.wrap .u8 (remI (addI .i64 (addI .i64 (iO a b k) (IntKind.wrap .i64 (a k))) (IntKind.wrap .i64 (b k))) 256) = nS a b k := by
  obtain ⟨i1, i2, i3⟩ := iO_v ha hb k (by omega)
  have ha := ha k (by omega); have hb := hb k (by omega)
  rw [i1, wrap8i ha, wrap8i hb]
  rw [show addI .i64 (nO a b k) (a k) = nO a b k + a k from wrap_i64 _ (by omega), show addI .i64 (nO a b k + a k) (b k) = nO a b k + a k + b k from wrap_i64 _ (by omega), rem256 (by omega), wrap_u8' (by omega)]
  unfold nS; rw [if_pos hk]
theorem iS_v {a b : Nat → Int} (ha : B16 a) (hb : B16 b) : ∀ j, j < 32 → iS a b j = nS a b j := by
  have h16 : IntKind.wrap .u8 (iO a b 16) = nS a b 16 := by
    obtain ⟨i1, i2, i3⟩ := iO_v ha hb 16 (by omega)
    rw [i1, wrap_u8' (by omega)]; rfl
  exact thirtytwo (P := fun j => iS a b j = nS a b j) ⟨iS_at ha hb (by omega), iS_at ha hb (by omega), iS_at ha hb (by omega), iS_at ha hb (by omega), iS_at ha hb (by omega), iS_at ha hb (by omega), iS_at ha hb (by omega), iS_at ha hb (by omega), iS_at ha hb (by omega), iS_at ha hb (by omega), iS_at ha hb (by omega), iS_at ha hb (by omega), iS_at ha hb (by omega), iS_at ha hb (by omega), iS_at ha hb (by omega), iS_at ha hb (by omega), h16, rfl, rfl, rfl, rfl, rfl, rfl, rfl, rfl, rfl, rfl, rfl, rfl, rfl, rfl, rfl⟩
theorem iE_v (a : Nat → Int) : ∀ j, j < 32 → iE a j = nE a j := thirtytwo (P := fun j => iE a j = nE a j) ⟨rfl, rfl, rfl, rfl, rfl, rfl, rfl, rfl, rfl, rfl, rfl, rfl, rfl, rfl, rfl, rfl, rfl, rfl, rfl, rfl, rfl, rfl, rfl, rfl, rfl, rfl, rfl, rfl, rfl, rfl, rfl, rfl⟩

theorem nE_b {a : Nat → Int} (ha : B16 a) : B32 (iE a) := fun j hj => by
  rw [iE_v a j hj]; unfold nE; split
  · exact ha j (by omega)
  · omega
theorem nS_b {a b : Nat → Int} (ha : B16 a) (hb : B16 b) : B32 (iS a b) := fun j hj => by
  rw [iS_v ha hb j hj]; unfold nS
  have := iO_v ha hb 16 (by omega)
  split
  · omega
  · split <;> omega
theorem dv_tail0 {B : Int} {f : Nat → Int} : ∀ n, (∀ j, j < n → f j = 0) → dv B n f = 0 := fun _ h => (dv_congr (b := fun _ => 0) h).trans dv_zero
theorem vb_E (a : Nat → Int) : vb (iE a) = dv 256 16 a := by
  unfold vb
  rw [dv_congr (iE_v a), show 32 = 16 + 16 from rfl, dv_split, dv_tail0 (f := fun i => nE a (16 + i)) 16 (fun j _ => by unfold nE; rw [if_neg (by omega)]), Int.mul_zero, Int.add_zero]
  exact dv_congr fun j hj => by simp [nE, hj]
theorem sum_low (a b : Nat → Int) : ∀ n, n ≤ 16 → dv 256 n (nS a b) + pw 256 n * nO a b n = dv 256 n a + dv 256 n b
  | 0, _ => by simp [dv, nO]
  | n + 1, h => by
    have ih := sum_low a b n (by omega)
    rw [dv_split (n := n) (m := 1), dv_split (n := n) (m := 1), dv_split (n := n) (m := 1)]
    simp only [dv, Nat.add_zero, Int.mul_zero, Int.add_zero]
    have e : nS a b n = (nO a b n + a n + b n) % 256 := by unfold nS; rw [if_pos (by omega)]
    have e2 : nO a b (n + 1) = (nO a b n + a n + b n) / 256 := rfl
    have e3 := Int.emod_add_mul_ediv (nO a b n + a n + b n) 256
    rw [← e, ← e2] at e3
    rw [show pw 256 (n + 1) = 256 * pw 256 n from rfl]
    grind
theorem vb_S {a b : Nat → Int} (ha : B16 a) (hb : B16 b) : vb (iS a b) = dv 256 16 a + dv 256 16 b := by
  unfold vb
  rw [dv_congr (iS_v ha hb), ← sum_low a b 16 (by omega), show 32 = 16 + 16 from rfl, dv_split, show (16 : Nat) = 1 + 15 from rfl, dv_split (n := 1) (m := 15) (a := fun i => nS a b (1 + 15 + i)), dv_tail0 (f := fun i => nS a b (16 + (1 + i))) 15 (fun j _ => by unfold nS; rw [if_neg (by omega), if_neg (by omega)])]
  simp only [dv, Int.mul_zero, Int.add_zero]
  rfl

theorem powP1 : B32 (lawPow 236 127) := by unfold B32; decide
theorem powP1_v : vb (lawPow 236 127) = ((pN - 1 : Nat) : Int) := by decide
theorem pow1 : B32 (up 0 1 (fun _ => 0)) := by unfold B32; decide
theorem pow1_v : vb (up 0 1 (fun _ => 0)) = ((1 : Nat) : Int) := by decide
theorem pow0 : B32 (fun _ => 0) := fun j _ => by simp
theorem pow0_v : vb (fun _ => 0) = ((0 : Nat) : Int) := dv_zero

theorem inverse_true {x a b : Nat → Int} (hx : U5 x) (ha : B16 a) (hb : B16 b) : lawInverse x a b = true := by
  have hy := inv_i hx
  have h1 := small_i 1 (by omega) (by omega)
  unfold lawInverse
  rw [isZeroFO_eq, invertFO_eq, countsBO_eq, counts_true, mulFO_eq, smallFO_eq, powFO_eq, selectFO_eq, isZero_i hx rfl, isZero_i hy.u hy.v]
  by_cases h0 : v5 x % p = 0
  · rw [decide_eq_true h0, cond_true]
    have : v5 x ^ (pN - 2) % p = 0 := by rw [← pow_emod', h0, Int.zero_pow (by decide)]; rfl
    rw [decide_eq_true this]
    rfl
  · rw [decide_eq_false h0, cond_false]
    have hs := select_i (y := invertF x) hx
    have e1 : eqN 5 (mulF x (invertF x)) (smallF 1) = true := by
      rw [((mul_i hx hy.u).to (Y := v5 x * v5 x ^ (pN - 2)) (by rw [hy.1, mr])).eqn h1, inv_mul h0]; decide
    have e2 : eqN 5 (powF x (lawPow 236 127)) (smallF 1) = true := by
      rw [(pow_i hx powP1 powP1_v).eqn h1, fermatI h0]; decide
    have e3 : eqN 5 (invertF (invertF x)) (selectF true x (invertF x)) = true := by
      rw [(invK hy).eqn hs]
      refine decide_eq_true ?_
      have e : (v5 x ^ (pN - 2)) ^ (pN - 2) = (v5 x ^ (pN - 1)) ^ (pN - 3) * v5 x := by
        rw [← Int.pow_mul, ← Int.pow_mul, ← Int.pow_succ]
        exact congrArg (fun k : Nat => v5 x ^ k) (by decide)
      rw [e, Int.mul_emod, ← pow_emod', fermatI h0, Int.one_pow, ← Int.mul_emod, Int.one_mul]
    have A0 : 0 ≤ dv 256 16 a := (dv_bound (by omega) ha).1
    have B0 : 0 ≤ dv 256 16 b := (dv_bound (by omega) hb).1
    obtain ⟨A, hA⟩ := Int.eq_ofNat_of_zero_le A0
    obtain ⟨B, hB⟩ := Int.eq_ofNat_of_zero_le B0
    have pa := pow_i (n := A) hx (nE_b ha) (by rw [vb_E, hA])
    have pb := pow_i (n := B) hx (nE_b hb) (by rw [vb_E, hB])
    have ps := pow_i (n := A + B) hx (nS_b ha hb) (by rw [vb_S ha hb, hA, hB]; rfl)
    have e4 : eqN 5 (mulF (powF x (iE a)) (powF x (iE b))) (powF x (iS a b)) = true := (mulK pa pb).same ps (Int.pow_add ..).symm
    have e5 : eqN 5 (powF x (up 0 1 (fun _ => 0))) (selectF true x (invertF x)) = true := (pow_i hx pow1 pow1_v).same hs (Int.pow_one _)
    have e6 : eqN 5 (powF x (fun _ => 0)) (smallF 1) = true := (pow_i hx pow0 pow0_v).same h1 (Int.pow_zero _)
    rw [e1, e2, e3, e4, e5, e6]
    rfl
end Go.Proofs.Ytbnclikjbnfodaa
