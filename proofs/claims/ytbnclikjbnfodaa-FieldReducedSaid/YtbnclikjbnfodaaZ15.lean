/-
  A part of the groundwork of this seat's claims: an evaluator over the program, walks, and plain mathematics. Conditions: none.
-/
import Derived.Test.YtbnclikjbnfodaaZ14
/-
  p is a prime number; the small theorem of Fermat. Plain numbers, no program. Conditions: none.
-/
namespace Go.Num

/-- A prime number. -/
def Pr (n : Nat) : Prop := 2 ≤ n ∧ ∀ m, m ∣ n → m = 1 ∨ m = n

theorem Pr.coprime {q m : Nat} (hq : Pr q) (h : ¬ q ∣ m) : Nat.Coprime q m := by
  have h1 := hq.2 _ (Nat.gcd_dvd_left q m)
  rcases h1 with h1 | h1
  · exact h1
  · exact absurd (h1 ▸ Nat.gcd_dvd_right q m) h
theorem Pr.dvd_mul {q a b : Nat} (hq : Pr q) (h : q ∣ a * b) : q ∣ a ∨ q ∣ b := by
  by_cases ha : q ∣ a
  · exact .inl ha
  · exact .inr ((hq.coprime ha).dvd_of_dvd_mul_left h)

/-- A prime factor that is the number itself, or whose square is not above it. -/
theorem factor : ∀ n, 2 ≤ n → Pr n ∨ ∃ r, Pr r ∧ r ∣ n ∧ r * r ≤ n := by
  intro n
  induction n using Nat.strongRecOn with
  | _ n ih =>
    intro hn
    by_cases h : ∃ m, m ∣ n ∧ m ≠ 1 ∧ m ≠ n
    · obtain ⟨m, ⟨k, rfl⟩, h1, h2⟩ := h
      refine .inr ?_
      have hm0 : m ≠ 0 := by rintro rfl; simp at hn
      have hk0 : k ≠ 0 := by rintro rfl; simp at hn
      have hk1 : k ≠ 1 := by rintro rfl; simp at h2
      have key : ∀ a b, 2 ≤ a → 2 ≤ b → a ≤ b → a * b = m * k → ∃ r, Pr r ∧ r ∣ m * k ∧ r * r ≤ m * k := by
        intro a b ha hb hab he
        have hlt : a < m * k := by rw [← he]; exact Nat.lt_of_lt_of_le (by omega) (Nat.mul_le_mul_left a hb)
        have haa : a * a ≤ m * k := by rw [← he]; exact Nat.mul_le_mul_left a hab
        rcases ih a hlt ha with hp | ⟨r, hr, hd, hrr⟩
        · exact ⟨a, hp, ⟨b, he.symm⟩, haa⟩
        · exact ⟨r, hr, Nat.dvd_trans hd ⟨b, he.symm⟩, Nat.le_trans hrr (Nat.le_of_lt hlt)⟩
      rcases Nat.le_total m k with hle | hle
      · exact key m k (by omega) (by omega) hle rfl
      · exact key k m (by omega) (by omega) hle (Nat.mul_comm k m)
    · refine .inl ⟨hn, fun m hm => ?_⟩
      apply Classical.byContradiction
      intro hne
      exact h ⟨m, hm, fun e => hne (.inl e), fun e => hne (.inr e)⟩

/-! ### Fermat -/

/-- Choosing k of n. -/
def ch : Nat → Nat → Nat
  | _, 0 => 1
  | 0, _ + 1 => 0
  | n + 1, k + 1 => ch n k + ch n (k + 1)
theorem ch_gt : ∀ n k, n < k → ch n k = 0
  | 0, k + 1, _ => rfl
  | n + 1, k + 1, h => by rw [ch, ch_gt n k (by omega), ch_gt n (k + 1) (by omega)]
theorem ch_self : ∀ n, ch n n = 1
  | 0 => rfl
  | n + 1 => by rw [ch, ch_self n, ch_gt n (n + 1) (by omega)]
theorem ch_mul : ∀ n k, (k + 1) * ch (n + 1) (k + 1) = (n + 1) * ch n k
  | 0, 0 => rfl
  | 0, k + 1 => by rw [ch_gt 1 (k + 2) (by omega), ch_gt 0 (k + 1) (by omega)]; simp
  | n + 1, 0 => by
    have h := ch_mul n 0
    have h2 : ch (n + 1 + 1) (0 + 1) = ch (n + 1) 0 + ch (n + 1) (0 + 1) := rfl
    rw [h2]
    simp only [ch] at h ⊢
    omega
  | n + 1, k + 1 => by
    have h1 := ch_mul n k
    have h2 := ch_mul n (k + 1)
    rw [show ch (n + 1 + 1) (k + 1 + 1) = ch (n + 1) (k + 1) + ch (n + 1) (k + 1 + 1) from rfl]
    have h3 : ch (n + 1) (k + 1) = ch n k + ch n (k + 1) := rfl
    grind

theorem prime_ch {q : Nat} (hq : Pr q) {k : Nat} (h0 : 0 < k) (h1 : k < q) : q ∣ ch q k := by
  obtain ⟨k, rfl⟩ : ∃ j, k = j + 1 := ⟨k - 1, by omega⟩
  obtain ⟨n, rfl⟩ : ∃ j, q = j + 1 := ⟨q - 1, by omega⟩
  have h := ch_mul n k
  have hd : n + 1 ∣ (k + 1) * ch (n + 1) (k + 1) := ⟨ch n k, h⟩
  rcases hq.dvd_mul hd with h | h
  · exact absurd (Nat.le_of_dvd (by omega) h) (by omega)
  · exact h

/-- The sum of the first m terms of (a + 1)^n. -/
def bs (a n : Nat) : Nat → Nat
  | 0 => 0
  | m + 1 => bs a n m + ch n m * a ^ m
theorem bs_step (a n : Nat) : ∀ m, bs a (n + 1) (m + 1) = bs a n (m + 1) + a * bs a n m
  | 0 => by simp [bs, ch]
  | m + 1 => by
    have h := bs_step a n m
    rw [bs, h]
    rw [show bs a n (m + 1 + 1) = bs a n (m + 1) + ch n (m + 1) * a ^ (m + 1) from rfl]
    rw [show bs a n (m + 1) = bs a n m + ch n m * a ^ m from rfl]
    rw [show ch (n + 1) (m + 1) = ch n m + ch n (m + 1) from rfl, Nat.pow_succ]
    grind
theorem binomial (a : Nat) : ∀ n, (a + 1) ^ n = bs a n (n + 1)
  | 0 => by simp [bs, ch]
  | n + 1 => by
    rw [bs_step, Nat.pow_succ, binomial a n]
    rw [show bs a n (n + 1 + 1) = bs a n (n + 1) + ch n (n + 1) * a ^ (n + 1) from rfl, ch_gt n (n + 1) (by omega)]
    grind
theorem bs_mod {q : Nat} (hq : Pr q) (a : Nat) : ∀ m, m < q → bs a q (m + 1) % q = 1 % q
  | 0, _ => by simp [bs, ch]
  | m + 1, h => by
    rw [bs, Nat.add_mod, bs_mod hq a m (by omega)]
    obtain ⟨c, hc⟩ := prime_ch hq (k := m + 1) (by omega) h
    rw [hc, Nat.mul_assoc, Nat.mul_mod_right]
    simp
theorem fermat {q : Nat} (hq : Pr q) : ∀ a, a ^ q % q = a % q
  | 0 => by rw [Nat.zero_pow (by have := hq.1; omega)]
  | a + 1 => by
    have h2 := hq.1
    rw [binomial, bs, ch_self, Nat.one_mul, Nat.add_mod, fermat hq a]
    obtain ⟨m, hm⟩ : ∃ m, q = m + 1 := ⟨q - 1, by omega⟩
    have h := bs_mod hq a m (by omega)
    rw [← hm] at h
    rw [h, ← Nat.add_mod, Nat.add_comm]
theorem fermat1 {q : Nat} (hq : Pr q) {a : Nat} (h : ¬ q ∣ a) : a ^ (q - 1) % q = 1 % q := by
  have h2 := hq.1
  have h1 := fermat hq a
  obtain ⟨m, rfl⟩ : ∃ m, q = m + 1 := ⟨q - 1, by omega⟩
  rw [Nat.pow_succ] at h1
  simp only [Nat.add_sub_cancel]
  have hd : ((m + 1 : Nat) : Int) ∣ (a : Int) * ((a : Int) ^ m - 1) := by
    have : (((a ^ m * a : Nat) : Int) - (a : Int)) % ((m + 1 : Nat) : Int) = 0 := by
      have e : ((a ^ m * a : Nat) : Int) % ((m + 1 : Nat) : Int) = (a : Int) % ((m + 1 : Nat) : Int) := by exact_mod_cast h1
      rw [Int.sub_emod, e]; simp
    have e2 : (a : Int) * ((a : Int) ^ m - 1) = ((a ^ m * a : Nat) : Int) - (a : Int) := by push_cast; grind
    rw [e2]
    exact Int.dvd_of_emod_eq_zero this
  by_cases ha : a = 0
  · subst ha; exact absurd ⟨0, rfl⟩ h
  have h1 : 1 ≤ a ^ m := Nat.pow_pos (by omega)
  have hd2 : (m + 1) ∣ a * (a ^ m - 1) := by
    have : ((a * (a ^ m - 1) : Nat) : Int) = (a : Int) * ((a : Int) ^ m - 1) := by push_cast [h1]; rfl
    rw [← this] at hd
    exact_mod_cast hd
  have hd3 := (hq.coprime h).dvd_of_dvd_mul_left hd2
  obtain ⟨c, hc⟩ := hd3
  have : a ^ m = (m + 1) * c + 1 := by omega
  rw [this, Nat.add_comm, Nat.add_mul_mod_self_left]

theorem fermat_int {q : Nat} (hq : Pr q) {X : Int} (hx : X % q ≠ 0) : X ^ (q - 1) % q = 1 := by
  have h2 := hq.1
  obtain ⟨a, ha⟩ : ∃ a : Nat, X % q = (a : Int) := Int.eq_ofNat_of_zero_le (Int.emod_nonneg _ (by omega))
  have hn : ¬ q ∣ a := by
    rintro ⟨c, rfl⟩
    apply hx
    have h : X % q % q = 0 := by rw [ha]; push_cast; exact Int.mul_emod_right _ _
    rwa [Int.emod_emod_of_dvd _ (Int.dvd_refl _)] at h
  have h := fermat1 hq hn
  have h1 : ∀ n : Nat, (X % q) ^ n % q = X ^ n % q := by
    intro n
    induction n with
    | zero => simp
    | succ n ih => rw [Int.pow_succ, Int.pow_succ, Int.mul_emod, ih, Int.emod_emod_of_dvd _ (Int.dvd_refl _), ← Int.mul_emod]
  rw [← h1, ha]
  generalize q - 1 = m at *
  rw [Nat.mod_eq_of_lt (show 1 < q by omega)] at h
  exact_mod_cast h

/-! ### Powers modulo n, fast; a number all of whose prime factors are large -/

def pm (n : Nat) : Nat → Nat → Nat → Nat
  | 0, _, _ => 1 % n
  | fuel + 1, a, e => if e = 0 then 1 % n else if e % 2 = 0 then pm n fuel (a * a % n) (e / 2) else a * pm n fuel (a * a % n) (e / 2) % n
theorem pm_eq (n : Nat) : ∀ fuel a e, e < 2 ^ fuel → pm n fuel a e = a ^ e % n
  | 0, a, e, h => by
    obtain rfl : e = 0 := by simpa using h
    simp [pm]
  | fuel + 1, a, e, h => by
    unfold pm
    have hlt : e / 2 < 2 ^ fuel := by rw [Nat.pow_succ] at h; omega
    have ih := pm_eq n fuel (a * a % n) (e / 2) hlt
    have e1 : (a * a % n) ^ (e / 2) % n = (a * a) ^ (e / 2) % n := (Nat.pow_mod (a * a) (e / 2) n).symm
    have e2 : (a * a) ^ (e / 2) = a ^ (2 * (e / 2)) := by rw [Nat.pow_mul, Nat.pow_two]
    rw [ih, e1, e2]
    by_cases h0 : e = 0
    · subst h0; simp
    · rw [if_neg h0]
      by_cases hm : e % 2 = 0
      · rw [if_pos hm, show 2 * (e / 2) = e by omega]
      · rw [if_neg hm]
        have : e = 2 * (e / 2) + 1 := by omega
        conv => rhs; rw [this, Nat.pow_succ, Nat.mul_comm]
        rw [Nat.mul_mod, Nat.mod_mod, ← Nat.mul_mod]

theorem pow_gcd {r g : Nat} (hr : 1 < r) : ∀ a b, g ^ a % r = 1 → g ^ b % r = 1 → g ^ (Nat.gcd a b) % r = 1 := by
  intro a b
  induction a, b using Nat.gcd.induction with
  | H0 b => intro _ h; rw [Nat.gcd_zero_left]; exact h
  | H1 a b ha ih =>
    intro h1 h2
    rw [Nat.gcd_rec]
    refine ih ?_ h1
    have e : b = a * (b / a) + b % a := (Nat.div_add_mod b a).symm
    rw [e, Nat.pow_add, Nat.pow_mul, Nat.mul_mod, Nat.pow_mod, h1, Nat.one_pow, Nat.mod_eq_of_lt hr, Nat.one_mul, Nat.mod_mod] at h2
    exact h2

/-- Pocklington: n - 1 = q R, q a prime; g^(n - 1) is 1, and g^R - 1 has no factor in common with n; no factor 1 + k q below the root. -/
theorem pock {n q R g K : Nat} (hn : 2 ≤ n) (hq : Pr q) (hnq : n - 1 = q * R) (h1 : g ^ (n - 1) % n = 1) (h2 : Nat.gcd ((g ^ R % n + n - 1) % n) n = 1)
    (hK : n < (1 + (K + 1) * q) * (1 + (K + 1) * q)) (hk : ∀ k, k < K → n % (1 + (k + 1) * q) ≠ 0) : Pr n := by
  rcases factor n hn with h | ⟨r, hr, hd, hrr⟩
  · exact h
  exfalso
  have hr2 := hr.1
  have h1r : g ^ (n - 1) % r = 1 := by
    have : g ^ (n - 1) % n % r = 1 % r := by rw [h1]
    rw [Nat.mod_mod_of_dvd _ hd, Nat.mod_eq_of_lt (show 1 < r by omega)] at this
    exact this
  have hg : ¬ r ∣ g := by
    rintro ⟨c, rfl⟩
    obtain ⟨m, hm⟩ : ∃ m, n - 1 = m + 1 := ⟨n - 2, by omega⟩
    rw [hm, Nat.pow_succ, Nat.mul_comm, Nat.mul_assoc, Nat.mul_mod_right] at h1r
    omega
  have h2r := fermat1 hr hg
  rw [Nat.mod_eq_of_lt (show 1 < r by omega)] at h2r
  have hgcd := pow_gcd (by omega) _ _ h1r h2r
  by_cases hqr : q ∣ r - 1
  · obtain ⟨c, hc⟩ := hqr
    have hc0 : c ≠ 0 := by rintro rfl; omega
    have hrc : r = 1 + (c - 1 + 1) * q := by
      rw [show c - 1 + 1 = c by omega, Nat.mul_comm]; omega
    by_cases hcK : c - 1 < K
    · have := hk (c - 1) hcK
      rw [← hrc] at this
      exact this (Nat.mod_eq_zero_of_dvd hd)
    · have hle : 1 + (K + 1) * q ≤ r := by
        rw [hrc]
        have := Nat.mul_le_mul_right q (show K + 1 ≤ c - 1 + 1 by omega)
        omega
      have := Nat.mul_le_mul hle hle
      omega
  · have hcop := hq.coprime hqr
    have hgR : Nat.gcd (n - 1) (r - 1) ∣ R := by
      rw [hnq]
      have hc2 : Nat.Coprime (Nat.gcd (q * R) (r - 1)) q := by
        have h := Nat.gcd_dvd_right (q * R) (r - 1)
        exact (Nat.Coprime.coprime_dvd_right h hcop).symm
      exact hc2.dvd_of_dvd_mul_left (Nat.gcd_dvd_left _ _)
    obtain ⟨c, hc⟩ := hgR
    have hR : g ^ R % r = 1 := by
      rw [hc, Nat.pow_mul, Nat.pow_mod, hgcd, Nat.one_pow, Nat.mod_eq_of_lt (show 1 < r by omega)]
    have hdr : r ∣ (g ^ R % n + n - 1) % n := by
      have e1 : (g ^ R % n + n - 1) % n % r = (g ^ R % n + n - 1) % r := Nat.mod_mod_of_dvd _ hd
      have e2 : g ^ R % n % r = 1 := by rw [Nat.mod_mod_of_dvd _ hd, hR]
      obtain ⟨d, hd'⟩ := hd
      refine Nat.dvd_of_mod_eq_zero ?_
      rw [e1]
      have e3 : g ^ R % n = r * (g ^ R % n / r) + 1 := by
        have := Nat.div_add_mod (g ^ R % n) r
        omega
      have e4 : g ^ R % n + n - 1 = r * (g ^ R % n / r + d) := by
        rw [Nat.mul_add, ← hd']; omega
      rw [e4, Nat.mul_mod_right]
    have := Nat.dvd_gcd hdr hd
    rw [h2] at this
    have := Nat.le_of_dvd (by omega) this
    omega

theorem trial {n : Nat} (hn : 2 ≤ n) {K : Nat} (hK : n < (K + 2) * (K + 2)) (h : ∀ k, k < K → n % (k + 2) ≠ 0) : Pr n := by
  rcases factor n hn with h' | ⟨r, hr, hd, hrr⟩
  · exact h'
  exfalso
  have h2 := hr.1
  by_cases hlt : r - 2 < K
  · have := h (r - 2) hlt
    rw [show r - 2 + 2 = r by omega] at this
    exact this (Nat.mod_eq_zero_of_dvd hd)
  · have := Nat.mul_le_mul (show K + 2 ≤ r by omega) (show K + 2 ≤ r by omega)
    omega

theorem pock' {n q R g K : Nat} (hn : 2 ≤ n) (hb : n < 2 ^ 256) (hq : Pr q) (hnq : n - 1 = q * R) (h1 : pm n 256 g (n - 1) = 1) (h2 : Nat.gcd ((pm n 256 g R + n - 1) % n) n = 1)
    (hK : n < (1 + (K + 1) * q) * (1 + (K + 1) * q)) (hk : ∀ k, k < K → n % (1 + (k + 1) * q) ≠ 0) : Pr n := by
  have hq2 := hq.1
  have hR : R ≤ n - 1 := by rw [hnq]; exact Nat.le_mul_of_pos_left R (by omega)
  rw [pm_eq _ _ _ _ (Nat.lt_of_le_of_lt (Nat.sub_le n 1) hb)] at h1
  rw [pm_eq _ _ _ _ (Nat.lt_of_le_of_lt hR (Nat.lt_of_le_of_lt (Nat.sub_le n 1) hb))] at h2
  exact pock hn hq hnq h1 h2 hK hk

theorem pr991 : Pr 991 := trial (K := 30) (by decide) (by decide) (by decide)
theorem pr1 : Pr 8574133 := pock' (q := 991) (R := 8652) (g := 2) (K := 2) (by decide) (by decide) pr991 (by decide) (by decide +kernel) (by decide +kernel) (by decide) (by decide)
theorem pr2 : Pr 1919519569386763 := pock' (q := 8574133) (R := 223873314) (g := 2) (K := 5) (by decide) (by decide) pr1 (by decide) (by decide +kernel) (by decide +kernel) (by decide) (by decide)
theorem pr3 : Pr 75445702479781427272750846543864801 := pock' (q := 1919519569386763) (R := 39304471641247389600) (g := 2) (K := 143) (by decide) (by decide) pr2 (by decide) (by decide +kernel) (by decide +kernel) (by decide) (by decide +kernel)
theorem pr4 : Pr 74058212732561358302231226437062788676166966415465897661863160754340907 := pock' (q := 75445702479781427272750846543864801) (R := 981609426360740691344999861639072106) (g := 2) (K := 3) (by decide) (by decide) pr3 (by decide) (by decide +kernel) (by decide +kernel) (by decide) (by decide)
/-- 2^255 - 19 is a prime number. -/
theorem prP : Pr 57896044618658097711785492504343953926634992332820282019728792003956564819949 := pock' (q := 74058212732561358302231226437062788676166966415465897661863160754340907) (R := 781764) (g := 2) (K := 0) (by decide) (by decide) pr4 (by decide) (by decide +kernel) (by decide +kernel) (by decide) (by decide)
end Go.Num

/-
  Numbers modulo p are a field: no product of others is 0, and the power p - 1 is 1. Conditions: none.
-/
namespace Go.Proofs.Ytbnclikjbnfodaa
open Go.Ev Go.Num

def pN : Nat := 57896044618658097711785492504343953926634992332820282019728792003956564819949
theorem p_pN : p = (pN : Int) := rfl
theorem zero_dvd {X : Int} : X % p = 0 ↔ pN ∣ X.natAbs := by
  rw [p_pN, ← Int.ofNat_dvd_left, Int.dvd_iff_emod_eq_zero]
theorem mul_zero' {X Y : Int} (h : X * Y % p = 0) : X % p = 0 ∨ Y % p = 0 := by
  rw [zero_dvd] at h ⊢
  rw [zero_dvd, Int.natAbs_mul] at *
  exact prP.dvd_mul h
theorem mul_ne {X Y : Int} (hx : X % p ≠ 0) (hy : Y % p ≠ 0) : X * Y % p ≠ 0 := fun h => (mul_zero' h).elim hx hy
theorem pow_ne {X : Int} (hx : X % p ≠ 0) : ∀ n : Nat, X ^ n % p ≠ 0
  | 0 => by rw [Int.pow_zero]; decide
  | n + 1 => by rw [Int.pow_succ]; exact mul_ne (pow_ne hx n) hx
theorem fermatI {X : Int} (hx : X % p ≠ 0) : X ^ (pN - 1) % p = 1 := fermat_int (q := pN) prP hx
/-- Equal modulo p. -/
theorem sub_zero' {X Y : Int} : (X - Y) % p = 0 ↔ X % p = Y % p := by
  constructor
  · intro h
    have : X = Y + (X - Y) := by omega
    rw [this, ← ar, h, Int.add_zero]
  · intro h
    rw [← sl, h, sl, Int.sub_self]; rfl
theorem cancel {X Y Z : Int} (hz : Z % p ≠ 0) (h : X * Z % p = Y * Z % p) : X % p = Y % p := by
  rw [← sub_zero'] at h ⊢
  rw [← Int.sub_mul] at h
  exact (mul_zero' h).resolve_right hz
theorem sq_eq {X Y : Int} (h : X * X % p = Y * Y % p) : X % p = Y % p ∨ X % p = (-Y) % p := by
  rw [← sub_zero', show X * X - Y * Y = (X - Y) * (X - -Y) by grind] at h
  rcases mul_zero' h with h | h
  · exact .inl (sub_zero'.1 h)
  · exact .inr (sub_zero'.1 h)
theorem powmul {A B C : Int} (n : Nat) (h : A % p = B * C % p) : A ^ n % p = (B ^ n % p) * (C ^ n % p) % p := by
  rw [← pow_emod', h, pow_emod', Int.mul_pow, Int.mul_emod]
theorem isZero_i {x : Nat → Int} {X : Int} (h : U5 x) (e : v5 x % p = X % p) : isZeroF x = decide (X % p = 0) := by
  show eqN 5 (reduceF x) (fun _ => 0) = _
  rw [eq5 (reduce_v h).2 R5_zero, (reduce_v h).1, v5_zero, e]
theorem pow_i {x e : Nat → Int} {n : Nat} (hx : U5 x) (he : B32 e) (hn : vb e = (n : Int)) : Is (powF x e) (v5 x ^ n) := by
  have h := pow_v hx he
  rw [hn, Int.toNat_natCast] at h
  exact h
theorem inv_i {x : Nat → Int} (hx : U5 x) : Is (invertF x) (v5 x ^ (pN - 2)) := inv_v hx
theorem powK {x e : Nat → Int} {n : Nat} {X : Int} (hx : Is x X) (he : B32 e) (hn : vb e = (n : Int)) : Is (powF x e) (X ^ n) := (pow_i hx.u he hn).to (by rw [hx.1, pow_emod'])
theorem invK {x : Nat → Int} {X : Int} (hx : Is x X) : Is (invertF x) (X ^ (pN - 2)) := (inv_i hx.u).to (by rw [hx.1, pow_emod'])
/-- X times its inverse. -/
theorem inv_mul {X : Int} (hx : X % p ≠ 0) : X * X ^ (pN - 2) % p = 1 := by
  have h := fermatI hx
  have e : pN - 1 = pN - 2 + 1 := rfl
  rw [e, Int.pow_succ, Int.mul_comm] at h
  exact h
end Go.Proofs.Ytbnclikjbnfodaa

namespace Go.Proofs.Ytbnclikjbnfodaa
open Go.Ev
theorem countsBO_ex : ∃ f : Bool, f = countsB := ⟨_, rfl⟩
/-- countsB, by a name that is not unfolded. -/
noncomputable def countsBO : Bool := Classical.choose countsBO_ex
theorem countsBO_eq : countsBO = countsB := Classical.choose_spec countsBO_ex
noncomputable def g50O : List V → Option (Bool × V) := fun | [] => some (true, (V.bool countsBO)) | _ => none
theorem g50O_ok (vs : List V) (v : V) (h : g50O vs = some (true, v)) : (∀ μ μ', v.den μ' = v.den μ) ∧ ∀ μ w, PureAt Try.prog 50 (vs.map (V.den μ)).toArray (v.den μ) w := by
  unfold g50O at h
  split at h
  · simp only [Option.some.injEq, Prod.mk.injEq, true_and] at h
    subst h
    rw [countsBO_eq]
    exact countsB_p
  · simp at h
noncomputable def o50O : Orc := ext 50 g50O o50
theorem o50O_ok : OrcOK Try.prog o50O := ext_ok o50_ok g50O_ok

/- fareboxlaw05.power -/
noncomputable def lawPow (low : Int) (high : Int) : (Nat → Int) := (L [low, 255, 255, 255, 255, 255, 255, 255, 255, 255, 255, 255, 255, 255, 255, 255, 255, 255, 255, 255, 255, 255, 255, 255, 255, 255, 255, 255, 255, 255, 255, high])
theorem lawPow_t (low : Int) (high : Int) : awp Try.prog o50O noG 300 (body Try.f51) (ends Try.prog Try.f51 fun v _ => okV (V.ints .u8 32 (lawPow low high)) v) ⟨[(V.int .u8 low), (V.int .u8 high)] ++ List.replicate 16 V.un, []⟩ = ((V.ints .u8 32 (lawPow low high)).den z0 = (V.ints .u8 32 (lawPow low high)).den z0) := by kernel_rfl
theorem lawPow_a (low : Int) (high : Int) : awp Try.prog o50O noG 300 (body Try.f51) (ends Try.prog Try.f51 fun v _ => okV (V.ints .u8 32 (lawPow low high)) v) ⟨[(V.int .u8 low), (V.int .u8 high)] ++ List.replicate 16 V.un, []⟩ := by rw [lawPow_t]
noncomputable def g51 : List V → Option (Bool × V) := fun | [.int .u8 low, .int .u8 high] => some (true, (V.ints .u8 32 (lawPow low high))) | _ => none
theorem lawPow_p (low : Int) (high : Int) : (∀ μ μ', V.den μ' (V.ints .u8 32 (lawPow low high)) = V.den μ (V.ints .u8 32 (lawPow low high))) ∧ ∀ μ w, PureAt Try.prog 51 (([(V.int .u8 low), (V.int .u8 high)] : List V).map (V.den μ)).toArray (V.den μ (V.ints .u8 32 (lawPow low high))) w :=
  pure_ok (F := o50O) (N := 300) (fn := Try.f51) (args := [(V.int .u8 low), (V.int .u8 high)]) (r := (V.ints .u8 32 (lawPow low high))) (n := 16) hM o50O_ok (noG_ok _) Try.func51 (by kernel_rfl) (by kernel_rfl) (by kernel_rfl) (by kernel_rfl) (lawPow_a low high) (by kernel_rfl)
theorem g51_ok (vs : List V) (v : V) (h : g51 vs = some (true, v)) : (∀ μ μ', v.den μ' = v.den μ) ∧ ∀ μ w, PureAt Try.prog 51 (vs.map (V.den μ)).toArray (v.den μ) w := by
  unfold g51 at h
  split at h
  · simp only [Option.some.injEq, Prod.mk.injEq, true_and] at h
    subst h
    exact lawPow_p _ _
  · simp at h
noncomputable def o51 : Orc := ext 51 g51 o50O
theorem o51_ok : OrcOK Try.prog o51 := ext_ok o50O_ok g51_ok

/-- What goes over when two numbers of 16 bytes are summed. -/
noncomputable def iO (a b : Nat → Int) : Nat → Int
  | 0 => 0
  | k + 1 => quoI .i64 (addI .i64 (addI .i64 (iO a b k) (IntKind.wrap .i64 (a k))) (IntKind.wrap .i64 (b k))) 256
noncomputable def iE (a : Nat → Int) : Nat → Int := (up 15 (a 15) (up 14 (a 14) (up 13 (a 13) (up 12 (a 12) (up 11 (a 11) (up 10 (a 10) (up 9 (a 9) (up 8 (a 8) (up 7 (a 7) (up 6 (a 6) (up 5 (a 5) (up 4 (a 4) (up 3 (a 3) (up 2 (a 2) (up 1 (a 1) (up 0 (a 0) (fun _ => 0)))))))))))))))))
noncomputable def iS (a b : Nat → Int) : Nat → Int := (up 16 (IntKind.wrap .u8 (iO a b 16)) (up 15 (IntKind.wrap .u8 (remI (addI .i64 (addI .i64 (iO a b 15) (IntKind.wrap .i64 (a 15))) (IntKind.wrap .i64 (b 15))) 256)) (up 14 (IntKind.wrap .u8 (remI (addI .i64 (addI .i64 (iO a b 14) (IntKind.wrap .i64 (a 14))) (IntKind.wrap .i64 (b 14))) 256)) (up 13 (IntKind.wrap .u8 (remI (addI .i64 (addI .i64 (iO a b 13) (IntKind.wrap .i64 (a 13))) (IntKind.wrap .i64 (b 13))) 256)) (up 12 (IntKind.wrap .u8 (remI (addI .i64 (addI .i64 (iO a b 12) (IntKind.wrap .i64 (a 12))) (IntKind.wrap .i64 (b 12))) 256)) (up 11 (IntKind.wrap .u8 (remI (addI .i64 (addI .i64 (iO a b 11) (IntKind.wrap .i64 (a 11))) (IntKind.wrap .i64 (b 11))) 256)) (up 10 (IntKind.wrap .u8 (remI (addI .i64 (addI .i64 (iO a b 10) (IntKind.wrap .i64 (a 10))) (IntKind.wrap .i64 (b 10))) 256)) (up 9 (IntKind.wrap .u8 (remI (addI .i64 (addI .i64 (iO a b 9) (IntKind.wrap .i64 (a 9))) (IntKind.wrap .i64 (b 9))) 256)) (up 8 (IntKind.wrap .u8 (remI (addI .i64 (addI .i64 (iO a b 8) (IntKind.wrap .i64 (a 8))) (IntKind.wrap .i64 (b 8))) 256)) (up 7 (IntKind.wrap .u8 (remI (addI .i64 (addI .i64 (iO a b 7) (IntKind.wrap .i64 (a 7))) (IntKind.wrap .i64 (b 7))) 256)) (up 6 (IntKind.wrap .u8 (remI (addI .i64 (addI .i64 (iO a b 6) (IntKind.wrap .i64 (a 6))) (IntKind.wrap .i64 (b 6))) 256)) (up 5 (IntKind.wrap .u8 (remI (addI .i64 (addI .i64 (iO a b 5) (IntKind.wrap .i64 (a 5))) (IntKind.wrap .i64 (b 5))) 256)) (up 4 (IntKind.wrap .u8 (remI (addI .i64 (addI .i64 (iO a b 4) (IntKind.wrap .i64 (a 4))) (IntKind.wrap .i64 (b 4))) 256)) (up 3 (IntKind.wrap .u8 (remI (addI .i64 (addI .i64 (iO a b 3) (IntKind.wrap .i64 (a 3))) (IntKind.wrap .i64 (b 3))) 256)) (up 2 (IntKind.wrap .u8 (remI (addI .i64 (addI .i64 (iO a b 2) (IntKind.wrap .i64 (a 2))) (IntKind.wrap .i64 (b 2))) 256)) (up 1 (IntKind.wrap .u8 (remI (addI .i64 (addI .i64 (iO a b 1) (IntKind.wrap .i64 (a 1))) (IntKind.wrap .i64 (b 1))) 256)) (up 0 (IntKind.wrap .u8 (remI (addI .i64 (addI .i64 (iO a b 0) (IntKind.wrap .i64 (a 0))) (IntKind.wrap .i64 (b 0))) 256)) (fun _ => 0))))))))))))))))))

/- fareboxlaw05.FieldInverse -/
noncomputable def lawInverse (x : (Nat → Int)) (a : (Nat → Int)) (b : (Nat → Int)) : Bool := (cond (isZeroFO x) (cond (isZeroFO (invertFO x)) countsBO false) (cond (!(eqN 5 (mulFO x (invertFO x)) (smallFO 1))) false (cond (!(eqN 5 (powFO x (lawPow 236 127)) (smallFO 1))) false (cond (!(eqN 5 (invertFO (invertFO x)) (selectFO true x (invertFO x)))) false (cond (eqN 5 (mulFO (powFO x (iE a)) (powFO x (iE b))) (powFO x (iS a b))) (cond (eqN 5 (powFO x (up 0 1 (fun _ => 0))) (selectFO true x (invertFO x))) (cond (eqN 5 (powFO x (fun _ => 0)) (smallFO 1)) countsBO false) false) false)))))
theorem lawInverse_t (x : (Nat → Int)) (a : (Nat → Int)) (b : (Nat → Int)) : awp Try.prog o51 noG 300 (body Try.f9) (ends Try.prog Try.f9 fun v _ => okV (V.bool (lawInverse x a b)) v) ⟨[(V.ints .u64 5 x), (V.ints .u8 16 a), (V.ints .u8 16 b)] ++ List.replicate 106 V.un, []⟩ = (mB (isZeroFO x) (mB (isZeroFO (invertFO x)) ((V.bool countsBO).den z0 = (V.bool (lawInverse x a b)).den z0) ((V.bool false).den z0 = (V.bool (lawInverse x a b)).den z0)) (mB (!(eqN 5 (mulFO x (invertFO x)) (smallFO 1))) ((V.bool false).den z0 = (V.bool (lawInverse x a b)).den z0) (mB (!(eqN 5 (powFO x (lawPow 236 127)) (smallFO 1))) ((V.bool false).den z0 = (V.bool (lawInverse x a b)).den z0) (mB (!(eqN 5 (invertFO (invertFO x)) (selectFO true x (invertFO x)))) ((V.bool false).den z0 = (V.bool (lawInverse x a b)).den z0) (mB (eqN 5 (mulFO (powFO x (iE a)) (powFO x (iE b))) (powFO x (iS a b))) (mB (eqN 5 (powFO x (up 0 1 (fun _ => 0))) (selectFO true x (invertFO x))) (mB (eqN 5 (powFO x (fun _ => 0)) (smallFO 1)) ((V.bool countsBO).den z0 = (V.bool (lawInverse x a b)).den z0) ((V.bool false).den z0 = (V.bool (lawInverse x a b)).den z0)) ((V.bool false).den z0 = (V.bool (lawInverse x a b)).den z0)) ((V.bool false).den z0 = (V.bool (lawInverse x a b)).den z0)))))) := by kernel_rfl
theorem lawInverse_a (x : (Nat → Int)) (a : (Nat → Int)) (b : (Nat → Int)) : awp Try.prog o51 noG 300 (body Try.f9) (ends Try.prog Try.f9 fun v _ => okV (V.bool (lawInverse x a b)) v) ⟨[(V.ints .u64 5 x), (V.ints .u8 16 a), (V.ints .u8 16 b)] ++ List.replicate 106 V.un, []⟩ := by
  rw [lawInverse_t]
  refine mBt (fun h1 => ?_) (fun h1 => ?_)
  · refine mBt (fun h2 => ?_) (fun h2 => ?_)
    · simp only [lawInverse, h1, h2, cond_true]
    · simp only [lawInverse, h1, h2, cond_true, cond_false]
  · refine mBt (fun h2 => ?_) (fun h2 => ?_)
    · simp only [lawInverse, h1, h2, cond_true, cond_false]
    · refine mBt (fun h3 => ?_) (fun h3 => ?_)
      · simp only [lawInverse, h1, h2, h3, cond_true, cond_false]
      · refine mBt (fun h4 => ?_) (fun h4 => ?_)
        · simp only [lawInverse, h1, h2, h3, h4, cond_true, cond_false]
        · refine mBt (fun h5 => ?_) (fun h5 => ?_)
          · refine mBt (fun h6 => ?_) (fun h6 => ?_)
            · refine mBt (fun h7 => ?_) (fun h7 => ?_)
              · simp only [lawInverse, h1, h2, h3, h4, h5, h6, h7, cond_true, cond_false]
              · simp only [lawInverse, h1, h2, h3, h4, h5, h6, h7, cond_true, cond_false]
            · simp only [lawInverse, h1, h2, h3, h4, h5, h6, cond_true, cond_false]
          · simp only [lawInverse, h1, h2, h3, h4, h5, cond_false]
noncomputable def g9 : List V → Option (Bool × V) := fun | [.ints .u64 5 x, .ints .u8 16 a, .ints .u8 16 b] => some (true, (V.bool (lawInverse x a b))) | _ => none
theorem lawInverse_p (x : (Nat → Int)) (a : (Nat → Int)) (b : (Nat → Int)) : (∀ μ μ', V.den μ' (V.bool (lawInverse x a b)) = V.den μ (V.bool (lawInverse x a b))) ∧ ∀ μ w, PureAt Try.prog 9 (([(V.ints .u64 5 x), (V.ints .u8 16 a), (V.ints .u8 16 b)] : List V).map (V.den μ)).toArray (V.den μ (V.bool (lawInverse x a b))) w :=
  pure_ok (F := o51) (N := 300) (fn := Try.f9) (args := [(V.ints .u64 5 x), (V.ints .u8 16 a), (V.ints .u8 16 b)]) (r := (V.bool (lawInverse x a b))) (n := 106) hM o51_ok (noG_ok _) Try.func9 (by kernel_rfl) (by kernel_rfl) (by kernel_rfl) (by kernel_rfl) (lawInverse_a x a b) (by kernel_rfl)
theorem g9_ok (vs : List V) (v : V) (h : g9 vs = some (true, v)) : (∀ μ μ', v.den μ' = v.den μ) ∧ ∀ μ w, PureAt Try.prog 9 (vs.map (V.den μ)).toArray (v.den μ) w := by
  unfold g9 at h
  split at h
  · simp only [Option.some.injEq, Prod.mk.injEq, true_and] at h
    subst h
    exact lawInverse_p _ _ _
  · simp at h
noncomputable def o9 : Orc := ext 9 g9 o51
theorem o9_ok : OrcOK Try.prog o9 := ext_ok o51_ok g9_ok
end Go.Proofs.Ytbnclikjbnfodaa

/-
  FieldInverse answers true. Conditions: none.
-/
namespace Go.Proofs.Ytbnclikjbnfodaa
open Go.Ev Go.Num

def B16 (b : Nat → Int) : Prop := ∀ j, j < 16 → 0 ≤ b j ∧ b j < 256
theorem wrap8i {a : Int} (h : 0 ≤ a ∧ a < 256) : IntKind.wrap .i64 a = a := wrap_i64 a (by omega)
/-- What goes over, in plain numbers. -/
def nO (a b : Nat → Int) : Nat → Int
  | 0 => 0
  | k + 1 => (nO a b k + a k + b k) / 256
theorem quo256 {a : Int} (h : 0 ≤ a ∧ a < 2000) : quoI .i64 a 256 = a / 256 := by
  obtain ⟨n, rfl⟩ := Int.eq_ofNat_of_zero_le h.1
  exact (quo_nat n 256 (by omega)).trans (by omega)
theorem rem256 {a : Int} (h : 0 ≤ a) : remI a 256 = a % 256 := by
  obtain ⟨n, rfl⟩ := Int.eq_ofNat_of_zero_le h
  exact (rem_nat n 256).trans (by omega)
theorem iO_v {a b : Nat → Int} (ha : B16 a) (hb : B16 b) : ∀ k, k ≤ 16 → iO a b k = nO a b k ∧ 0 ≤ nO a b k ∧ nO a b k ≤ 1
  | 0, _ => ⟨rfl, by simp [nO], by simp [nO]⟩
  | k + 1, hk => by
    obtain ⟨i1, i2, i3⟩ := iO_v ha hb k (by omega)
    have ha := ha k (by omega); have hb := hb k (by omega)
    simp only [iO, nO]
    rw [i1, wrap8i ha, wrap8i hb]
    rw [show addI .i64 (nO a b k) (a k) = nO a b k + a k from wrap_i64 _ (by omega), show addI .i64 (nO a b k + a k) (b k) = nO a b k + a k + b k from wrap_i64 _ (by omega), quo256 (by omega)]
    omega
/-- The sum's bytes, in plain numbers. -/
def nS (a b : Nat → Int) (j : Nat) : Int := if j < 16 then (nO a b j + a j + b j) % 256 else if j = 16 then nO a b 16 else 0
def nE (a : Nat → Int) (j : Nat) : Int := if j < 16 then a j else 0
theorem wrap_u8' {a : Int} (h : 0 ≤ a ∧ a < 256) : IntKind.wrap .u8 a = a := by rw [wrap_u8]; exact Int.emod_eq_of_lt h.1 h.2
theorem iS_at {a b : Nat → Int} (ha : B16 a) (hb : B16 b) {k : Nat} (hk : k < 16) :
    IntKind.wrap .u8 (remI (addI .i64 (addI .i64 (iO a b k) (IntKind.wrap .i64 (a k))) (IntKind.wrap .i64 (b k))) 256) = nS a b k := by
  obtain ⟨i1, i2, i3⟩ := iO_v ha hb k (by omega)
  have ha := ha k (by omega); have hb := hb k (by omega)
  rw [i1, wrap8i ha, wrap8i hb]
  rw [show addI .i64 (nO a b k) (a k) = nO a b k + a k from wrap_i64 _ (by omega), show addI .i64 (nO a b k + a k) (b k) = nO a b k + a k + b k from wrap_i64 _ (by omega), rem256 (by omega), wrap_u8' (by omega)]
  unfold nS; rw [if_pos hk]
theorem iS_v {a b : Nat → Int} (ha : B16 a) (hb : B16 b) : ∀ j, j < 32 → iS a b j = nS a b j := by
  have h16 : IntKind.wrap .u8 (iO a b 16) = nS a b 16 := by
    obtain ⟨i1, i2, i3⟩ := iO_v ha hb 16 (by omega)
    rw [i1, wrap_u8' (by omega)]; rfl
  exact thirtytwo (P := fun j => iS a b j = nS a b j) ⟨iS_at ha hb (by omega), iS_at ha hb (by omega), iS_at ha hb (by omega), iS_at ha hb (by omega), iS_at ha hb (by omega), iS_at ha hb (by omega), iS_at ha hb (by omega), iS_at ha hb (by omega), iS_at ha hb (by omega), iS_at ha hb (by omega), iS_at ha hb (by omega), iS_at ha hb (by omega), iS_at ha hb (by omega), iS_at ha hb (by omega), iS_at ha hb (by omega), iS_at ha hb (by omega), h16, rfl, rfl, rfl, rfl, rfl, rfl, rfl, rfl, rfl, rfl, rfl, rfl, rfl, rfl, rfl⟩
theorem iE_v (a : Nat → Int) : ∀ j, j < 32 → iE a j = nE a j := thirtytwo (P := fun j => iE a j = nE a j) ⟨rfl, rfl, rfl, rfl, rfl, rfl, rfl, rfl, rfl, rfl, rfl, rfl, rfl, rfl, rfl, rfl, rfl, rfl, rfl, rfl, rfl, rfl, rfl, rfl, rfl, rfl, rfl, rfl, rfl, rfl, rfl, rfl⟩

theorem nE_b {a : Nat → Int} (ha : B16 a) : B32 (iE a) := fun j hj => by
  rw [iE_v a j hj]; unfold nE; split
  · exact ha j (by omega)
  · omega
theorem nS_b {a b : Nat → Int} (ha : B16 a) (hb : B16 b) : B32 (iS a b) := fun j hj => by
  rw [iS_v ha hb j hj]; unfold nS
  have := iO_v ha hb 16 (by omega)
  split
  · omega
  · split <;> omega
theorem dv_tail0 {B : Int} {f : Nat → Int} : ∀ n, (∀ j, j < n → f j = 0) → dv B n f = 0 := fun _ h => (dv_congr (b := fun _ => 0) h).trans dv_zero
theorem vb_E (a : Nat → Int) : vb (iE a) = dv 256 16 a := by
  unfold vb
  rw [dv_congr (iE_v a), show 32 = 16 + 16 from rfl, dv_split, dv_tail0 (f := fun i => nE a (16 + i)) 16 (fun j _ => by unfold nE; rw [if_neg (by omega)]), Int.mul_zero, Int.add_zero]
  exact dv_congr fun j hj => by simp [nE, hj]
theorem sum_low (a b : Nat → Int) : ∀ n, n ≤ 16 → dv 256 n (nS a b) + pw 256 n * nO a b n = dv 256 n a + dv 256 n b
  | 0, _ => by simp [dv, nO]
  | n + 1, h => by
    have ih := sum_low a b n (by omega)
    rw [dv_split (n := n) (m := 1), dv_split (n := n) (m := 1), dv_split (n := n) (m := 1)]
    simp only [dv, Nat.add_zero, Int.mul_zero, Int.add_zero]
    have e : nS a b n = (nO a b n + a n + b n) % 256 := by unfold nS; rw [if_pos (by omega)]
    have e2 : nO a b (n + 1) = (nO a b n + a n + b n) / 256 := rfl
    have e3 := Int.emod_add_mul_ediv (nO a b n + a n + b n) 256
    rw [← e, ← e2] at e3
    rw [show pw 256 (n + 1) = 256 * pw 256 n from rfl]
    grind
theorem vb_S {a b : Nat → Int} (ha : B16 a) (hb : B16 b) : vb (iS a b) = dv 256 16 a + dv 256 16 b := by
  unfold vb
  rw [dv_congr (iS_v ha hb), ← sum_low a b 16 (by omega), show 32 = 16 + 16 from rfl, dv_split, show (16 : Nat) = 1 + 15 from rfl, dv_split (n := 1) (m := 15) (a := fun i => nS a b (1 + 15 + i)), dv_tail0 (f := fun i => nS a b (16 + (1 + i))) 15 (fun j _ => by unfold nS; rw [if_neg (by omega), if_neg (by omega)])]
  simp only [dv, Int.mul_zero, Int.add_zero]
  rfl

theorem powP1 : B32 (lawPow 236 127) := by unfold B32; decide
theorem powP1_v : vb (lawPow 236 127) = ((pN - 1 : Nat) : Int) := by decide
theorem pow1 : B32 (up 0 1 (fun _ => 0)) := by unfold B32; decide
theorem pow1_v : vb (up 0 1 (fun _ => 0)) = ((1 : Nat) : Int) := by decide
theorem pow0 : B32 (fun _ => 0) := fun j _ => by simp
theorem pow0_v : vb (fun _ => 0) = ((0 : Nat) : Int) := dv_zero

theorem inverse_true {x a b : Nat → Int} (hx : U5 x) (ha : B16 a) (hb : B16 b) : lawInverse x a b = true := by
  have hy := inv_i hx
  have h1 := small_i 1 (by omega) (by omega)
  unfold lawInverse
  rw [isZeroFO_eq, invertFO_eq, countsBO_eq, counts_true, mulFO_eq, smallFO_eq, powFO_eq, selectFO_eq, isZero_i hx rfl, isZero_i hy.u hy.v]
  by_cases h0 : v5 x % p = 0
  · rw [decide_eq_true h0, cond_true]
    have : v5 x ^ (pN - 2) % p = 0 := by rw [← pow_emod', h0, Int.zero_pow (by decide)]; rfl
    rw [decide_eq_true this]
    rfl
  · rw [decide_eq_false h0, cond_false]
    have hs := select_i (y := invertF x) hx
    have e1 : eqN 5 (mulF x (invertF x)) (smallF 1) = true := by
      rw [((mul_i hx hy.u).to (Y := v5 x * v5 x ^ (pN - 2)) (by rw [hy.1, mr])).eqn h1, inv_mul h0]; decide
    have e2 : eqN 5 (powF x (lawPow 236 127)) (smallF 1) = true := by
      rw [(pow_i hx powP1 powP1_v).eqn h1, fermatI h0]; decide
    have e3 : eqN 5 (invertF (invertF x)) (selectF true x (invertF x)) = true := by
      rw [(invK hy).eqn hs]
      refine decide_eq_true ?_
      have e : (v5 x ^ (pN - 2)) ^ (pN - 2) = (v5 x ^ (pN - 1)) ^ (pN - 3) * v5 x := by
        rw [← Int.pow_mul, ← Int.pow_mul, ← Int.pow_succ]
        exact congrArg (fun k : Nat => v5 x ^ k) (by decide)
      rw [e, Int.mul_emod, ← pow_emod', fermatI h0, Int.one_pow, ← Int.mul_emod, Int.one_mul]
    have A0 : 0 ≤ dv 256 16 a := (dv_bound (by omega) ha).1
    have B0 : 0 ≤ dv 256 16 b := (dv_bound (by omega) hb).1
    obtain ⟨A, hA⟩ := Int.eq_ofNat_of_zero_le A0
    obtain ⟨B, hB⟩ := Int.eq_ofNat_of_zero_le B0
    have pa := pow_i (n := A) hx (nE_b ha) (by rw [vb_E, hA])
    have pb := pow_i (n := B) hx (nE_b hb) (by rw [vb_E, hB])
    have ps := pow_i (n := A + B) hx (nS_b ha hb) (by rw [vb_S ha hb, hA, hB]; rfl)
    have e4 : eqN 5 (mulF (powF x (iE a)) (powF x (iE b))) (powF x (iS a b)) = true := (mulK pa pb).same ps (Int.pow_add ..).symm
    have e5 : eqN 5 (powF x (up 0 1 (fun _ => 0))) (selectF true x (invertF x)) = true := (pow_i hx pow1 pow1_v).same hs (Int.pow_one _)
    have e6 : eqN 5 (powF x (fun _ => 0)) (smallF 1) = true := (pow_i hx pow0 pow0_v).same h1 (Int.pow_zero _)
    rw [e1, e2, e3, e4, e5, e6]
    rfl
end Go.Proofs.Ytbnclikjbnfodaa

namespace Go.Proofs.Ytbnclikjbnfodaa
open Go.Ev
/- field.SqrtRatio -/
noncomputable def sqrtF (u : (Nat → Int)) (y : (Nat → Int)) : ((Nat → Int) × Bool) := (cond (isZeroFO y) ((fun _ => 0), (isZeroFO u)) (cond (equalFO (mulFO y (squareFO (mulFO (mulFO u (mulFO (squareFO y) y)) (powFO (mulFO (mulFO u (squareFO (mulFO (squareFO y) y))) y) (power255 253 15))))) u) ((selectFO (isOddFO (mulFO (mulFO u (mulFO (squareFO y) y)) (powFO (mulFO (mulFO u (squareFO (mulFO (squareFO y) y))) y) (power255 253 15)))) (negFO (mulFO (mulFO u (mulFO (squareFO y) y)) (powFO (mulFO (mulFO u (squareFO (mulFO (squareFO y) y))) y) (power255 253 15)))) (mulFO (mulFO u (mulFO (squareFO y) y)) (powFO (mulFO (mulFO u (squareFO (mulFO (squareFO y) y))) y) (power255 253 15)))), true) (cond (equalFO (mulFO y (squareFO (mulFO (mulFO u (mulFO (squareFO y) y)) (powFO (mulFO (mulFO u (squareFO (mulFO (squareFO y) y))) y) (power255 253 15))))) (negFO u)) ((selectFO (isOddFO (mulFO (mulFO (mulFO u (mulFO (squareFO y) y)) (powFO (mulFO (mulFO u (squareFO (mulFO (squareFO y) y))) y) (power255 253 15))) (powFO (smallFO 2) (power255 251 31)))) (negFO (mulFO (mulFO (mulFO u (mulFO (squareFO y) y)) (powFO (mulFO (mulFO u (squareFO (mulFO (squareFO y) y))) y) (power255 253 15))) (powFO (smallFO 2) (power255 251 31)))) (mulFO (mulFO (mulFO u (mulFO (squareFO y) y)) (powFO (mulFO (mulFO u (squareFO (mulFO (squareFO y) y))) y) (power255 253 15))) (powFO (smallFO 2) (power255 251 31)))), true) ((fun _ => 0), false))))
theorem sqrtF_t (u : (Nat → Int)) (y : (Nat → Int)) : awp Try.prog o51 noG 300 (body Try.f52) (ends Try.prog Try.f52 fun v _ => okV (V.tup [(V.ints .u64 5 (sqrtF u y).1), (V.bool (sqrtF u y).2)]) v) ⟨[(V.ints .u64 5 u), (V.ints .u64 5 y)] ++ List.replicate 55 V.un, []⟩ = (mB (isZeroFO y) ((V.tup [(V.ints .u64 5 (fun _ => 0)), (V.bool (isZeroFO u))]).den z0 = (V.tup [(V.ints .u64 5 (sqrtF u y).1), (V.bool (sqrtF u y).2)]).den z0) (mB (equalFO (mulFO y (squareFO (mulFO (mulFO u (mulFO (squareFO y) y)) (powFO (mulFO (mulFO u (squareFO (mulFO (squareFO y) y))) y) (power255 253 15))))) u) ((V.tup [(V.ints .u64 5 (selectFO (isOddFO (mulFO (mulFO u (mulFO (squareFO y) y)) (powFO (mulFO (mulFO u (squareFO (mulFO (squareFO y) y))) y) (power255 253 15)))) (negFO (mulFO (mulFO u (mulFO (squareFO y) y)) (powFO (mulFO (mulFO u (squareFO (mulFO (squareFO y) y))) y) (power255 253 15)))) (mulFO (mulFO u (mulFO (squareFO y) y)) (powFO (mulFO (mulFO u (squareFO (mulFO (squareFO y) y))) y) (power255 253 15))))), (V.bool true)]).den z0 = (V.tup [(V.ints .u64 5 (sqrtF u y).1), (V.bool (sqrtF u y).2)]).den z0) (mB (equalFO (mulFO y (squareFO (mulFO (mulFO u (mulFO (squareFO y) y)) (powFO (mulFO (mulFO u (squareFO (mulFO (squareFO y) y))) y) (power255 253 15))))) (negFO u)) ((V.tup [(V.ints .u64 5 (selectFO (isOddFO (mulFO (mulFO (mulFO u (mulFO (squareFO y) y)) (powFO (mulFO (mulFO u (squareFO (mulFO (squareFO y) y))) y) (power255 253 15))) (powFO (smallFO 2) (power255 251 31)))) (negFO (mulFO (mulFO (mulFO u (mulFO (squareFO y) y)) (powFO (mulFO (mulFO u (squareFO (mulFO (squareFO y) y))) y) (power255 253 15))) (powFO (smallFO 2) (power255 251 31)))) (mulFO (mulFO (mulFO u (mulFO (squareFO y) y)) (powFO (mulFO (mulFO u (squareFO (mulFO (squareFO y) y))) y) (power255 253 15))) (powFO (smallFO 2) (power255 251 31))))), (V.bool true)]).den z0 = (V.tup [(V.ints .u64 5 (sqrtF u y).1), (V.bool (sqrtF u y).2)]).den z0) ((V.tup [(V.ints .u64 5 (fun _ => 0)), (V.bool false)]).den z0 = (V.tup [(V.ints .u64 5 (sqrtF u y).1), (V.bool (sqrtF u y).2)]).den z0)))) := by kernel_rfl
theorem sqrtF_a (u : (Nat → Int)) (y : (Nat → Int)) : awp Try.prog o51 noG 300 (body Try.f52) (ends Try.prog Try.f52 fun v _ => okV (V.tup [(V.ints .u64 5 (sqrtF u y).1), (V.bool (sqrtF u y).2)]) v) ⟨[(V.ints .u64 5 u), (V.ints .u64 5 y)] ++ List.replicate 55 V.un, []⟩ := by
  rw [sqrtF_t]
  refine mBt (fun h1 => ?_) (fun h1 => ?_)
  · simp only [sqrtF, h1, cond_true]
  · refine mBt (fun h2 => ?_) (fun h2 => ?_)
    · simp only [sqrtF, h1, h2, cond_true, cond_false]
    · refine mBt (fun h3 => ?_) (fun h3 => ?_)
      · simp only [sqrtF, h1, h2, h3, cond_true, cond_false]
      · simp only [sqrtF, h1, h2, h3, cond_false]
noncomputable def g52 : List V → Option (Bool × V) := fun | [.ints .u64 5 u, .ints .u64 5 y] => some (true, (V.tup [(V.ints .u64 5 (sqrtF u y).1), (V.bool (sqrtF u y).2)])) | _ => none
theorem sqrtF_p (u : (Nat → Int)) (y : (Nat → Int)) : (∀ μ μ', V.den μ' (V.tup [(V.ints .u64 5 (sqrtF u y).1), (V.bool (sqrtF u y).2)]) = V.den μ (V.tup [(V.ints .u64 5 (sqrtF u y).1), (V.bool (sqrtF u y).2)])) ∧ ∀ μ w, PureAt Try.prog 52 (([(V.ints .u64 5 u), (V.ints .u64 5 y)] : List V).map (V.den μ)).toArray (V.den μ (V.tup [(V.ints .u64 5 (sqrtF u y).1), (V.bool (sqrtF u y).2)])) w :=
  pure_ok (F := o51) (N := 300) (fn := Try.f52) (args := [(V.ints .u64 5 u), (V.ints .u64 5 y)]) (r := (V.tup [(V.ints .u64 5 (sqrtF u y).1), (V.bool (sqrtF u y).2)])) (n := 55) hM o51_ok (noG_ok _) Try.func52 (by kernel_rfl) (by kernel_rfl) (by kernel_rfl) (by kernel_rfl) (sqrtF_a u y) (by kernel_rfl)
theorem g52_ok (vs : List V) (v : V) (h : g52 vs = some (true, v)) : (∀ μ μ', v.den μ' = v.den μ) ∧ ∀ μ w, PureAt Try.prog 52 (vs.map (V.den μ)).toArray (v.den μ) w := by
  unfold g52 at h
  split at h
  · simp only [Option.some.injEq, Prod.mk.injEq, true_and] at h
    subst h
    exact sqrtF_p _ _
  · simp at h
noncomputable def o52 : Orc := ext 52 g52 o51
theorem o52_ok : OrcOK Try.prog o52 := ext_ok o51_ok g52_ok

theorem rMulO_ex : ∃ f : (Nat → Int) → (Nat → Int) → (Nat → Int), f = rMul := ⟨_, rfl⟩
/-- rMul, by a name that is not unfolded. -/
noncomputable def rMulO : (Nat → Int) → (Nat → Int) → (Nat → Int) := Classical.choose rMulO_ex
theorem rMulO_eq : rMulO = rMul := Classical.choose_spec rMulO_ex
noncomputable def g44O : List V → Option (Bool × V) := fun | [.ints .u64 10 a, .ints .u64 10 b] => some (true, (V.ints .u64 10 (rMulO a b))) | _ => none
theorem g44O_ok (vs : List V) (v : V) (h : g44O vs = some (true, v)) : (∀ μ μ', v.den μ' = v.den μ) ∧ ∀ μ w, PureAt Try.prog 44 (vs.map (V.den μ)).toArray (v.den μ) w := by
  unfold g44O at h
  split at h
  · simp only [Option.some.injEq, Prod.mk.injEq, true_and] at h
    subst h
    rw [rMulO_eq]
    exact rMul_p _ _
  · simp at h
noncomputable def o44O : Orc := ext 44 g44O o52
theorem o44O_ok : OrcOK Try.prog o44O := ext_ok o52_ok g44O_ok

theorem rIsZeroO_ex : ∃ f : (Nat → Int) → Bool, f = rIsZero := ⟨_, rfl⟩
/-- rIsZero, by a name that is not unfolded. -/
noncomputable def rIsZeroO : (Nat → Int) → Bool := Classical.choose rIsZeroO_ex
theorem rIsZeroO_eq : rIsZeroO = rIsZero := Classical.choose_spec rIsZeroO_ex
noncomputable def g24O : List V → Option (Bool × V) := fun | [.ints .u64 10 a] => some (true, (V.bool (rIsZeroO a))) | _ => none
theorem g24O_ok (vs : List V) (v : V) (h : g24O vs = some (true, v)) : (∀ μ μ', v.den μ' = v.den μ) ∧ ∀ μ w, PureAt Try.prog 24 (vs.map (V.den μ)).toArray (v.den μ) w := by
  unfold g24O at h
  split at h
  · simp only [Option.some.injEq, Prod.mk.injEq, true_and] at h
    subst h
    rw [rIsZeroO_eq]
    exact rIsZero_p _
  · simp at h
noncomputable def o24O : Orc := ext 24 g24O o44O
theorem o24O_ok : OrcOK Try.prog o24O := ext_ok o44O_ok g24O_ok

theorem rIsOddO_ex : ∃ f : (Nat → Int) → Bool, f = rIsOdd := ⟨_, rfl⟩
/-- rIsOdd, by a name that is not unfolded. -/
noncomputable def rIsOddO : (Nat → Int) → Bool := Classical.choose rIsOddO_ex
theorem rIsOddO_eq : rIsOddO = rIsOdd := Classical.choose_spec rIsOddO_ex
noncomputable def g26O : List V → Option (Bool × V) := fun | [.ints .u64 10 a] => some (true, (V.bool (rIsOddO a))) | _ => none
theorem g26O_ok (vs : List V) (v : V) (h : g26O vs = some (true, v)) : (∀ μ μ', v.den μ' = v.den μ) ∧ ∀ μ w, PureAt Try.prog 26 (vs.map (V.den μ)).toArray (v.den μ) w := by
  unfold g26O at h
  split at h
  · simp only [Option.some.injEq, Prod.mk.injEq, true_and] at h
    subst h
    rw [rIsOddO_eq]
    exact rIsOdd_p _
  · simp at h
noncomputable def o26O : Orc := ext 26 g26O o24O
theorem o26O_ok : OrcOK Try.prog o26O := ext_ok o24O_ok g26O_ok

theorem rNegO_ex : ∃ f : (Nat → Int) → (Nat → Int), f = rNeg := ⟨_, rfl⟩
/-- rNeg, by a name that is not unfolded. -/
noncomputable def rNegO : (Nat → Int) → (Nat → Int) := Classical.choose rNegO_ex
theorem rNegO_eq : rNegO = rNeg := Classical.choose_spec rNegO_ex
noncomputable def g34O : List V → Option (Bool × V) := fun | [.ints .u64 10 a] => some (true, (V.ints .u64 10 (rNegO a))) | _ => none
theorem g34O_ok (vs : List V) (v : V) (h : g34O vs = some (true, v)) : (∀ μ μ', v.den μ' = v.den μ) ∧ ∀ μ w, PureAt Try.prog 34 (vs.map (V.den μ)).toArray (v.den μ) w := by
  unfold g34O at h
  split at h
  · simp only [Option.some.injEq, Prod.mk.injEq, true_and] at h
    subst h
    rw [rNegO_eq]
    exact rNeg_p _
  · simp at h
noncomputable def o34O : Orc := ext 34 g34O o26O
theorem o34O_ok : OrcOK Try.prog o34O := ext_ok o26O_ok g34O_ok

theorem rSmallO_ex : ∃ f : Int → (Nat → Int), f = rSmall := ⟨_, rfl⟩
/-- rSmall, by a name that is not unfolded. -/
noncomputable def rSmallO : Int → (Nat → Int) := Classical.choose rSmallO_ex
theorem rSmallO_eq : rSmallO = rSmall := Classical.choose_spec rSmallO_ex
noncomputable def g42O : List V → Option (Bool × V) := fun | [.int .u64 n] => some (true, (V.ints .u64 10 (rSmallO n))) | _ => none
theorem g42O_ok (vs : List V) (v : V) (h : g42O vs = some (true, v)) : (∀ μ μ', v.den μ' = v.den μ) ∧ ∀ μ w, PureAt Try.prog 42 (vs.map (V.den μ)).toArray (v.den μ) w := by
  unfold g42O at h
  split at h
  · simp only [Option.some.injEq, Prod.mk.injEq, true_and] at h
    subst h
    rw [rSmallO_eq]
    exact rSmall_p _
  · simp at h
noncomputable def o42O : Orc := ext 42 g42O o34O
theorem o42O_ok : OrcOK Try.prog o42O := ext_ok o34O_ok g42O_ok

/- fareboxref05.even -/
noncomputable def rEven (a : (Nat → Int)) : (Nat → Int) := (cond (rIsOddO a) (rNegO a) a)
theorem rEven_t (a : (Nat → Int)) : awp Try.prog o42O noG 300 (body Try.f92) (ends Try.prog Try.f92 fun v _ => okV (V.ints .u64 10 (rEven a)) v) ⟨[(V.ints .u64 10 a)] ++ List.replicate 7 V.un, []⟩ = (mB (rIsOddO a) ((V.ints .u64 10 (rNegO a)).den z0 = (V.ints .u64 10 (rEven a)).den z0) ((V.ints .u64 10 a).den z0 = (V.ints .u64 10 (rEven a)).den z0)) := by kernel_rfl
theorem rEven_a (a : (Nat → Int)) : awp Try.prog o42O noG 300 (body Try.f92) (ends Try.prog Try.f92 fun v _ => okV (V.ints .u64 10 (rEven a)) v) ⟨[(V.ints .u64 10 a)] ++ List.replicate 7 V.un, []⟩ := by
  rw [rEven_t]
  refine mBt (fun h1 => ?_) (fun h1 => ?_)
  · simp only [rEven, h1, cond_true]
  · simp only [rEven, h1, cond_false]
noncomputable def g92 : List V → Option (Bool × V) := fun | [.ints .u64 10 a] => some (true, (V.ints .u64 10 (rEven a))) | _ => none
theorem rEven_p (a : (Nat → Int)) : (∀ μ μ', V.den μ' (V.ints .u64 10 (rEven a)) = V.den μ (V.ints .u64 10 (rEven a))) ∧ ∀ μ w, PureAt Try.prog 92 (([(V.ints .u64 10 a)] : List V).map (V.den μ)).toArray (V.den μ (V.ints .u64 10 (rEven a))) w :=
  pure_ok (F := o42O) (N := 300) (fn := Try.f92) (args := [(V.ints .u64 10 a)]) (r := (V.ints .u64 10 (rEven a))) (n := 7) hM o42O_ok (noG_ok _) Try.func92 (by kernel_rfl) (by kernel_rfl) (by kernel_rfl) (by kernel_rfl) (rEven_a a) (by kernel_rfl)
theorem g92_ok (vs : List V) (v : V) (h : g92 vs = some (true, v)) : (∀ μ μ', v.den μ' = v.den μ) ∧ ∀ μ w, PureAt Try.prog 92 (vs.map (V.den μ)).toArray (v.den μ) w := by
  unfold g92 at h
  split at h
  · simp only [Option.some.injEq, Prod.mk.injEq, true_and] at h
    subst h
    exact rEven_p _
  · simp at h
noncomputable def o92 : Orc := ext 92 g92 o42O
theorem o92_ok : OrcOK Try.prog o92 := ext_ok o42O_ok g92_ok

theorem rEvenO_ex : ∃ f : (Nat → Int) → (Nat → Int), f = rEven := ⟨_, rfl⟩
/-- rEven, by a name that is not unfolded. -/
noncomputable def rEvenO : (Nat → Int) → (Nat → Int) := Classical.choose rEvenO_ex
theorem rEvenO_eq : rEvenO = rEven := Classical.choose_spec rEvenO_ex
noncomputable def g92O : List V → Option (Bool × V) := fun | [.ints .u64 10 a] => some (true, (V.ints .u64 10 (rEvenO a))) | _ => none
theorem g92O_ok (vs : List V) (v : V) (h : g92O vs = some (true, v)) : (∀ μ μ', v.den μ' = v.den μ) ∧ ∀ μ w, PureAt Try.prog 92 (vs.map (V.den μ)).toArray (v.den μ) w := by
  unfold g92O at h
  split at h
  · simp only [Option.some.injEq, Prod.mk.injEq, true_and] at h
    subst h
    rw [rEvenO_eq]
    exact rEven_p _
  · simp at h
noncomputable def o92O : Orc := ext 92 g92O o92
theorem o92O_ok : OrcOK Try.prog o92O := ext_ok o92_ok g92O_ok

/- fareboxref05.SqrtRatio -/
noncomputable def rSqrt (u : (Nat → Int)) (y : (Nat → Int)) : ((Nat → Int) × Bool) := (cond (rIsZeroO y) ((fun _ => 0), (rIsZeroO u)) (cond (eqN 10 (rMulO (rPowO (rMulO u (rInvertO y)) (rPower 254 15)) (rPowO (rMulO u (rInvertO y)) (rPower 254 15))) (rMulO u (rInvertO y))) ((rEvenO (rPowO (rMulO u (rInvertO y)) (rPower 254 15))), true) (cond (eqN 10 (rMulO (rMulO (rPowO (rMulO u (rInvertO y)) (rPower 254 15)) (rPowO (rSmallO 2) (rPower 251 31))) (rMulO (rPowO (rMulO u (rInvertO y)) (rPower 254 15)) (rPowO (rSmallO 2) (rPower 251 31)))) (rMulO u (rInvertO y))) ((rEvenO (rMulO (rPowO (rMulO u (rInvertO y)) (rPower 254 15)) (rPowO (rSmallO 2) (rPower 251 31)))), true) ((fun _ => 0), false))))
theorem rSqrt_t (u : (Nat → Int)) (y : (Nat → Int)) : awp Try.prog o92O noG 300 (body Try.f53) (ends Try.prog Try.f53 fun v _ => okV (V.tup [(V.ints .u64 10 (rSqrt u y).1), (V.bool (rSqrt u y).2)]) v) ⟨[(V.ints .u64 10 u), (V.ints .u64 10 y)] ++ List.replicate 38 V.un, []⟩ = (mB (rIsZeroO y) ((V.tup [(V.ints .u64 10 (fun _ => 0)), (V.bool (rIsZeroO u))]).den z0 = (V.tup [(V.ints .u64 10 (rSqrt u y).1), (V.bool (rSqrt u y).2)]).den z0) (mB (eqN 10 (rMulO (rPowO (rMulO u (rInvertO y)) (rPower 254 15)) (rPowO (rMulO u (rInvertO y)) (rPower 254 15))) (rMulO u (rInvertO y))) ((V.tup [(V.ints .u64 10 (rEvenO (rPowO (rMulO u (rInvertO y)) (rPower 254 15)))), (V.bool true)]).den z0 = (V.tup [(V.ints .u64 10 (rSqrt u y).1), (V.bool (rSqrt u y).2)]).den z0) (mB (eqN 10 (rMulO (rMulO (rPowO (rMulO u (rInvertO y)) (rPower 254 15)) (rPowO (rSmallO 2) (rPower 251 31))) (rMulO (rPowO (rMulO u (rInvertO y)) (rPower 254 15)) (rPowO (rSmallO 2) (rPower 251 31)))) (rMulO u (rInvertO y))) ((V.tup [(V.ints .u64 10 (rEvenO (rMulO (rPowO (rMulO u (rInvertO y)) (rPower 254 15)) (rPowO (rSmallO 2) (rPower 251 31))))), (V.bool true)]).den z0 = (V.tup [(V.ints .u64 10 (rSqrt u y).1), (V.bool (rSqrt u y).2)]).den z0) ((V.tup [(V.ints .u64 10 (fun _ => 0)), (V.bool false)]).den z0 = (V.tup [(V.ints .u64 10 (rSqrt u y).1), (V.bool (rSqrt u y).2)]).den z0)))) := by kernel_rfl
theorem rSqrt_a (u : (Nat → Int)) (y : (Nat → Int)) : awp Try.prog o92O noG 300 (body Try.f53) (ends Try.prog Try.f53 fun v _ => okV (V.tup [(V.ints .u64 10 (rSqrt u y).1), (V.bool (rSqrt u y).2)]) v) ⟨[(V.ints .u64 10 u), (V.ints .u64 10 y)] ++ List.replicate 38 V.un, []⟩ := by
  rw [rSqrt_t]
  refine mBt (fun h1 => ?_) (fun h1 => ?_)
  · simp only [rSqrt, h1, cond_true]
  · refine mBt (fun h2 => ?_) (fun h2 => ?_)
    · simp only [rSqrt, h1, h2, cond_true, cond_false]
    · refine mBt (fun h3 => ?_) (fun h3 => ?_)
      · simp only [rSqrt, h1, h2, h3, cond_true, cond_false]
      · simp only [rSqrt, h1, h2, h3, cond_false]
noncomputable def g53 : List V → Option (Bool × V) := fun | [.ints .u64 10 u, .ints .u64 10 y] => some (true, (V.tup [(V.ints .u64 10 (rSqrt u y).1), (V.bool (rSqrt u y).2)])) | _ => none
theorem rSqrt_p (u : (Nat → Int)) (y : (Nat → Int)) : (∀ μ μ', V.den μ' (V.tup [(V.ints .u64 10 (rSqrt u y).1), (V.bool (rSqrt u y).2)]) = V.den μ (V.tup [(V.ints .u64 10 (rSqrt u y).1), (V.bool (rSqrt u y).2)])) ∧ ∀ μ w, PureAt Try.prog 53 (([(V.ints .u64 10 u), (V.ints .u64 10 y)] : List V).map (V.den μ)).toArray (V.den μ (V.tup [(V.ints .u64 10 (rSqrt u y).1), (V.bool (rSqrt u y).2)])) w :=
  pure_ok (F := o92O) (N := 300) (fn := Try.f53) (args := [(V.ints .u64 10 u), (V.ints .u64 10 y)]) (r := (V.tup [(V.ints .u64 10 (rSqrt u y).1), (V.bool (rSqrt u y).2)])) (n := 38) hM o92O_ok (noG_ok _) Try.func53 (by kernel_rfl) (by kernel_rfl) (by kernel_rfl) (by kernel_rfl) (rSqrt_a u y) (by kernel_rfl)
theorem g53_ok (vs : List V) (v : V) (h : g53 vs = some (true, v)) : (∀ μ μ', v.den μ' = v.den μ) ∧ ∀ μ w, PureAt Try.prog 53 (vs.map (V.den μ)).toArray (v.den μ) w := by
  unfold g53 at h
  split at h
  · simp only [Option.some.injEq, Prod.mk.injEq, true_and] at h
    subst h
    exact rSqrt_p _ _
  · simp at h
noncomputable def o53 : Orc := ext 53 g53 o92O
theorem o53_ok : OrcOK Try.prog o53 := ext_ok o92O_ok g53_ok

theorem sqrtFO_ex : ∃ f : (Nat → Int) → (Nat → Int) → ((Nat → Int) × Bool), f = sqrtF := ⟨_, rfl⟩
/-- sqrtF, by a name that is not unfolded. -/
noncomputable def sqrtFO : (Nat → Int) → (Nat → Int) → ((Nat → Int) × Bool) := Classical.choose sqrtFO_ex
theorem sqrtFO_eq : sqrtFO = sqrtF := Classical.choose_spec sqrtFO_ex
noncomputable def g52O : List V → Option (Bool × V) := fun | [.ints .u64 5 u, .ints .u64 5 y] => some (true, (V.tup [(V.ints .u64 5 (sqrtFO u y).1), (V.bool (sqrtFO u y).2)])) | _ => none
theorem g52O_ok (vs : List V) (v : V) (h : g52O vs = some (true, v)) : (∀ μ μ', v.den μ' = v.den μ) ∧ ∀ μ w, PureAt Try.prog 52 (vs.map (V.den μ)).toArray (v.den μ) w := by
  unfold g52O at h
  split at h
  · simp only [Option.some.injEq, Prod.mk.injEq, true_and] at h
    subst h
    rw [sqrtFO_eq]
    exact sqrtF_p _ _
  · simp at h
noncomputable def o52O : Orc := ext 52 g52O o53
theorem o52O_ok : OrcOK Try.prog o52O := ext_ok o53_ok g52O_ok

theorem rSqrtO_ex : ∃ f : (Nat → Int) → (Nat → Int) → ((Nat → Int) × Bool), f = rSqrt := ⟨_, rfl⟩
/-- rSqrt, by a name that is not unfolded. -/
noncomputable def rSqrtO : (Nat → Int) → (Nat → Int) → ((Nat → Int) × Bool) := Classical.choose rSqrtO_ex
theorem rSqrtO_eq : rSqrtO = rSqrt := Classical.choose_spec rSqrtO_ex
noncomputable def g53O : List V → Option (Bool × V) := fun | [.ints .u64 10 u, .ints .u64 10 y] => some (true, (V.tup [(V.ints .u64 10 (rSqrtO u y).1), (V.bool (rSqrtO u y).2)])) | _ => none
theorem g53O_ok (vs : List V) (v : V) (h : g53O vs = some (true, v)) : (∀ μ μ', v.den μ' = v.den μ) ∧ ∀ μ w, PureAt Try.prog 53 (vs.map (V.den μ)).toArray (v.den μ) w := by
  unfold g53O at h
  split at h
  · simp only [Option.some.injEq, Prod.mk.injEq, true_and] at h
    subst h
    rw [rSqrtO_eq]
    exact rSqrt_p _ _
  · simp at h
noncomputable def o53O : Orc := ext 53 g53O o52O
theorem o53O_ok : OrcOK Try.prog o53O := ext_ok o52O_ok g53O_ok
end Go.Proofs.Ytbnclikjbnfodaa

namespace Go.Proofs.Ytbnclikjbnfodaa
open Go.Ev
/- fareboxlaw05.FieldRoots -/
noncomputable def lawRoots (u : (Nat → Int)) (y : (Nat → Int)) : Bool := (cond ((sqrtFO u y).2 == (rSqrtO (rOfO u) (rOfO y)).2) (isEO (sqrtFO u y).1 (rSqrtO (rOfO u) (rOfO y)).1) false)
theorem lawRoots_t (u : (Nat → Int)) (y : (Nat → Int)) : awp Try.prog o53O noG 300 (body Try.f10) (ends Try.prog Try.f10 fun v _ => okV (V.bool (lawRoots u y)) v) ⟨[(V.ints .u64 5 u), (V.ints .u64 5 y)] ++ List.replicate 29 V.un, []⟩ = (mB ((sqrtFO u y).2 == (rSqrtO (rOfO u) (rOfO y)).2) ((V.bool (isEO (sqrtFO u y).1 (rSqrtO (rOfO u) (rOfO y)).1)).den z0 = (V.bool (lawRoots u y)).den z0) ((V.bool false).den z0 = (V.bool (lawRoots u y)).den z0)) := by kernel_rfl
theorem lawRoots_a (u : (Nat → Int)) (y : (Nat → Int)) : awp Try.prog o53O noG 300 (body Try.f10) (ends Try.prog Try.f10 fun v _ => okV (V.bool (lawRoots u y)) v) ⟨[(V.ints .u64 5 u), (V.ints .u64 5 y)] ++ List.replicate 29 V.un, []⟩ := by
  rw [lawRoots_t]
  refine mBt (fun h1 => ?_) (fun h1 => ?_)
  · simp only [lawRoots, h1, cond_true]
  · simp only [lawRoots, h1, cond_false]
noncomputable def g10 : List V → Option (Bool × V) := fun | [.ints .u64 5 u, .ints .u64 5 y] => some (true, (V.bool (lawRoots u y))) | _ => none
theorem lawRoots_p (u : (Nat → Int)) (y : (Nat → Int)) : (∀ μ μ', V.den μ' (V.bool (lawRoots u y)) = V.den μ (V.bool (lawRoots u y))) ∧ ∀ μ w, PureAt Try.prog 10 (([(V.ints .u64 5 u), (V.ints .u64 5 y)] : List V).map (V.den μ)).toArray (V.den μ (V.bool (lawRoots u y))) w :=
  pure_ok (F := o53O) (N := 300) (fn := Try.f10) (args := [(V.ints .u64 5 u), (V.ints .u64 5 y)]) (r := (V.bool (lawRoots u y))) (n := 29) hM o53O_ok (noG_ok _) Try.func10 (by kernel_rfl) (by kernel_rfl) (by kernel_rfl) (by kernel_rfl) (lawRoots_a u y) (by kernel_rfl)
theorem g10_ok (vs : List V) (v : V) (h : g10 vs = some (true, v)) : (∀ μ μ', v.den μ' = v.den μ) ∧ ∀ μ w, PureAt Try.prog 10 (vs.map (V.den μ)).toArray (v.den μ) w := by
  unfold g10 at h
  split at h
  · simp only [Option.some.injEq, Prod.mk.injEq, true_and] at h
    subst h
    exact lawRoots_p _ _
  · simp at h
noncomputable def o10 : Orc := ext 10 g10 o53O
theorem o10_ok : OrcOK Try.prog o10 := ext_ok o53O_ok g10_ok

/- fareboxlaw05.FieldSquares -/
noncomputable def lawSquares (u : (Nat → Int)) (y : (Nat → Int)) : Bool := (cond (isZeroFO y) (cond ((sqrtFO u y).2 == (isZeroFO u)) (cond (isZeroFO (sqrtFO u y).1) countsBO false) false) (cond (sqrtFO u y).2 (cond (isOddFO (sqrtFO u y).1) false (cond (!(eqN 5 (mulFO y (squareFO (sqrtFO u y).1)) (selectFO true u y))) false (cond (!(sqrtFO u y).2) (cond (!(isZeroFO (sqrtFO u y).1)) false (cond (!(eqN 5 (powFO (mulFO u y) (lawPow 246 63)) (negFO (smallFO 1)))) false (cond (sqrtFO (mulFO y (squareFO u)) y).2 (cond (eqN 5 (sqrtFO (mulFO y (squareFO u)) y).1 (selectFO true u y)) (cond (!(isOddFO (sqrtFO (mulFO y (squareFO u)) y).1)) countsBO false) (cond (eqN 5 (sqrtFO (mulFO y (squareFO u)) y).1 (negFO u)) (cond (!(isOddFO (sqrtFO (mulFO y (squareFO u)) y).1)) countsBO false) false)) false))) (cond (sqrtFO (mulFO y (squareFO u)) y).2 (cond (eqN 5 (sqrtFO (mulFO y (squareFO u)) y).1 (selectFO true u y)) (cond (!(isOddFO (sqrtFO (mulFO y (squareFO u)) y).1)) countsBO false) (cond (eqN 5 (sqrtFO (mulFO y (squareFO u)) y).1 (negFO u)) (cond (!(isOddFO (sqrtFO (mulFO y (squareFO u)) y).1)) countsBO false) false)) false)))) (cond (!(sqrtFO u y).2) (cond (!(isZeroFO (sqrtFO u y).1)) false (cond (!(eqN 5 (powFO (mulFO u y) (lawPow 246 63)) (negFO (smallFO 1)))) false (cond (sqrtFO (mulFO y (squareFO u)) y).2 (cond (eqN 5 (sqrtFO (mulFO y (squareFO u)) y).1 (selectFO true u y)) (cond (!(isOddFO (sqrtFO (mulFO y (squareFO u)) y).1)) countsBO false) (cond (eqN 5 (sqrtFO (mulFO y (squareFO u)) y).1 (negFO u)) (cond (!(isOddFO (sqrtFO (mulFO y (squareFO u)) y).1)) countsBO false) false)) false))) (cond (sqrtFO (mulFO y (squareFO u)) y).2 (cond (eqN 5 (sqrtFO (mulFO y (squareFO u)) y).1 (selectFO true u y)) (cond (!(isOddFO (sqrtFO (mulFO y (squareFO u)) y).1)) countsBO false) (cond (eqN 5 (sqrtFO (mulFO y (squareFO u)) y).1 (negFO u)) (cond (!(isOddFO (sqrtFO (mulFO y (squareFO u)) y).1)) countsBO false) false)) false))))
theorem lawSquares_t (u : (Nat → Int)) (y : (Nat → Int)) : awp Try.prog o10 noG 300 (body Try.f11) (ends Try.prog Try.f11 fun v _ => okV (V.bool (lawSquares u y)) v) ⟨[(V.ints .u64 5 u), (V.ints .u64 5 y)] ++ List.replicate 89 V.un, []⟩ = (mB (isZeroFO y) (mB ((sqrtFO u y).2 == (isZeroFO u)) (mB (isZeroFO (sqrtFO u y).1) ((V.bool countsBO).den z0 = (V.bool (lawSquares u y)).den z0) ((V.bool false).den z0 = (V.bool (lawSquares u y)).den z0)) ((V.bool false).den z0 = (V.bool (lawSquares u y)).den z0)) (mB (sqrtFO u y).2 (mB (isOddFO (sqrtFO u y).1) ((V.bool false).den z0 = (V.bool (lawSquares u y)).den z0) (mB (!(eqN 5 (mulFO y (squareFO (sqrtFO u y).1)) (selectFO true u y))) ((V.bool false).den z0 = (V.bool (lawSquares u y)).den z0) (mB (!(sqrtFO u y).2) (mB (!(isZeroFO (sqrtFO u y).1)) ((V.bool false).den z0 = (V.bool (lawSquares u y)).den z0) (mB (!(eqN 5 (powFO (mulFO u y) (lawPow 246 63)) (negFO (smallFO 1)))) ((V.bool false).den z0 = (V.bool (lawSquares u y)).den z0) (mB (sqrtFO (mulFO y (squareFO u)) y).2 (mB (eqN 5 (sqrtFO (mulFO y (squareFO u)) y).1 (selectFO true u y)) (mB (!(isOddFO (sqrtFO (mulFO y (squareFO u)) y).1)) ((V.bool countsBO).den z0 = (V.bool (lawSquares u y)).den z0) ((V.bool false).den z0 = (V.bool (lawSquares u y)).den z0)) (mB (eqN 5 (sqrtFO (mulFO y (squareFO u)) y).1 (negFO u)) (mB (!(isOddFO (sqrtFO (mulFO y (squareFO u)) y).1)) ((V.bool countsBO).den z0 = (V.bool (lawSquares u y)).den z0) ((V.bool false).den z0 = (V.bool (lawSquares u y)).den z0)) ((V.bool false).den z0 = (V.bool (lawSquares u y)).den z0))) ((V.bool false).den z0 = (V.bool (lawSquares u y)).den z0)))) (mB (sqrtFO (mulFO y (squareFO u)) y).2 (mB (eqN 5 (sqrtFO (mulFO y (squareFO u)) y).1 (selectFO true u y)) (mB (!(isOddFO (sqrtFO (mulFO y (squareFO u)) y).1)) ((V.bool countsBO).den z0 = (V.bool (lawSquares u y)).den z0) ((V.bool false).den z0 = (V.bool (lawSquares u y)).den z0)) (mB (eqN 5 (sqrtFO (mulFO y (squareFO u)) y).1 (negFO u)) (mB (!(isOddFO (sqrtFO (mulFO y (squareFO u)) y).1)) ((V.bool countsBO).den z0 = (V.bool (lawSquares u y)).den z0) ((V.bool false).den z0 = (V.bool (lawSquares u y)).den z0)) ((V.bool false).den z0 = (V.bool (lawSquares u y)).den z0))) ((V.bool false).den z0 = (V.bool (lawSquares u y)).den z0))))) (mB (!(sqrtFO u y).2) (mB (!(isZeroFO (sqrtFO u y).1)) ((V.bool false).den z0 = (V.bool (lawSquares u y)).den z0) (mB (!(eqN 5 (powFO (mulFO u y) (lawPow 246 63)) (negFO (smallFO 1)))) ((V.bool false).den z0 = (V.bool (lawSquares u y)).den z0) (mB (sqrtFO (mulFO y (squareFO u)) y).2 (mB (eqN 5 (sqrtFO (mulFO y (squareFO u)) y).1 (selectFO true u y)) (mB (!(isOddFO (sqrtFO (mulFO y (squareFO u)) y).1)) ((V.bool countsBO).den z0 = (V.bool (lawSquares u y)).den z0) ((V.bool false).den z0 = (V.bool (lawSquares u y)).den z0)) (mB (eqN 5 (sqrtFO (mulFO y (squareFO u)) y).1 (negFO u)) (mB (!(isOddFO (sqrtFO (mulFO y (squareFO u)) y).1)) ((V.bool countsBO).den z0 = (V.bool (lawSquares u y)).den z0) ((V.bool false).den z0 = (V.bool (lawSquares u y)).den z0)) ((V.bool false).den z0 = (V.bool (lawSquares u y)).den z0))) ((V.bool false).den z0 = (V.bool (lawSquares u y)).den z0)))) (mB (sqrtFO (mulFO y (squareFO u)) y).2 (mB (eqN 5 (sqrtFO (mulFO y (squareFO u)) y).1 (selectFO true u y)) (mB (!(isOddFO (sqrtFO (mulFO y (squareFO u)) y).1)) ((V.bool countsBO).den z0 = (V.bool (lawSquares u y)).den z0) ((V.bool false).den z0 = (V.bool (lawSquares u y)).den z0)) (mB (eqN 5 (sqrtFO (mulFO y (squareFO u)) y).1 (negFO u)) (mB (!(isOddFO (sqrtFO (mulFO y (squareFO u)) y).1)) ((V.bool countsBO).den z0 = (V.bool (lawSquares u y)).den z0) ((V.bool false).den z0 = (V.bool (lawSquares u y)).den z0)) ((V.bool false).den z0 = (V.bool (lawSquares u y)).den z0))) ((V.bool false).den z0 = (V.bool (lawSquares u y)).den z0))))) := by kernel_rfl
theorem lawSquares_a (u : (Nat → Int)) (y : (Nat → Int)) : awp Try.prog o10 noG 300 (body Try.f11) (ends Try.prog Try.f11 fun v _ => okV (V.bool (lawSquares u y)) v) ⟨[(V.ints .u64 5 u), (V.ints .u64 5 y)] ++ List.replicate 89 V.un, []⟩ := by
  rw [lawSquares_t]
  refine mBt (fun h1 => ?_) (fun h1 => ?_)
  · refine mBt (fun h2 => ?_) (fun h2 => ?_)
    · refine mBt (fun h3 => ?_) (fun h3 => ?_)
      · simp only [lawSquares, h1, h2, h3, cond_true]
      · simp only [lawSquares, h1, h2, h3, cond_true, cond_false]
    · simp only [lawSquares, h1, h2, cond_true, cond_false]
  · refine mBt (fun h2 => ?_) (fun h2 => ?_)
    · refine mBt (fun h3 => ?_) (fun h3 => ?_)
      · simp only [lawSquares, h1, h2, h3, cond_true, cond_false]
      · refine mBt (fun h4 => ?_) (fun h4 => ?_)
        · simp only [lawSquares, h1, h2, h3, h4, cond_true, cond_false]
        · refine mBt (fun h5 => ?_) (fun h5 => ?_)
          · refine mBt (fun h6 => ?_) (fun h6 => ?_)
            · simp [h2] at h5
            · refine mBt (fun h7 => ?_) (fun h7 => ?_)
              · simp [h2] at h5
              · refine mBt (fun h8 => ?_) (fun h8 => ?_)
                · refine mBt (fun h9 => ?_) (fun h9 => ?_)
                  · refine mBt (fun h10 => ?_) (fun h10 => ?_)
                    · simp [h2] at h5
                    · simp [h2] at h5
                  · refine mBt (fun h10 => ?_) (fun h10 => ?_)
                    · refine mBt (fun h11 => ?_) (fun h11 => ?_)
                      · simp [h2] at h5
                      · simp [h2] at h5
                    · simp [h2] at h5
                · simp [h2] at h5
          · refine mBt (fun h6 => ?_) (fun h6 => ?_)
            · refine mBt (fun h7 => ?_) (fun h7 => ?_)
              · refine mBt (fun h8 => ?_) (fun h8 => ?_)
                · simp only [lawSquares, h1, h2, h3, h4, h6, h7, h8, cond_true, cond_false, Bool.not_true]
                · simp only [lawSquares, h1, h2, h3, h4, h6, h7, h8, cond_true, cond_false, Bool.not_true]
              · refine mBt (fun h8 => ?_) (fun h8 => ?_)
                · refine mBt (fun h9 => ?_) (fun h9 => ?_)
                  · simp only [lawSquares, h1, h2, h3, h4, h6, h7, h8, h9, cond_true, cond_false, Bool.not_true]
                  · simp only [lawSquares, h1, h2, h3, h4, h6, h7, h8, h9, cond_true, cond_false, Bool.not_true]
                · simp only [lawSquares, h1, h2, h3, h4, h6, h7, h8, cond_true, cond_false, Bool.not_true]
            · simp only [lawSquares, h1, h2, h3, h4, h6, cond_true, cond_false, Bool.not_true]
    · refine mBt (fun h3 => ?_) (fun h3 => ?_)
      · refine mBt (fun h4 => ?_) (fun h4 => ?_)
        · simp only [lawSquares, h1, h2, h4, cond_true, cond_false, Bool.not_false]
        · refine mBt (fun h5 => ?_) (fun h5 => ?_)
          · simp only [lawSquares, h1, h2, h4, h5, cond_true, cond_false, Bool.not_false]
          · refine mBt (fun h6 => ?_) (fun h6 => ?_)
            · refine mBt (fun h7 => ?_) (fun h7 => ?_)
              · refine mBt (fun h8 => ?_) (fun h8 => ?_)
                · simp only [lawSquares, h1, h2, h4, h5, h6, h7, h8, cond_true, cond_false, Bool.not_false]
                · simp only [lawSquares, h1, h2, h4, h5, h6, h7, h8, cond_true, cond_false, Bool.not_false]
              · refine mBt (fun h8 => ?_) (fun h8 => ?_)
                · refine mBt (fun h9 => ?_) (fun h9 => ?_)
                  · simp only [lawSquares, h1, h2, h4, h5, h6, h7, h8, h9, cond_true, cond_false, Bool.not_false]
                  · simp only [lawSquares, h1, h2, h4, h5, h6, h7, h8, h9, cond_true, cond_false, Bool.not_false]
                · simp only [lawSquares, h1, h2, h4, h5, h6, h7, h8, cond_true, cond_false, Bool.not_false]
            · simp only [lawSquares, h1, h2, h4, h5, h6, cond_false, Bool.not_false, cond_true]
      · refine mBt (fun h4 => ?_) (fun h4 => ?_)
        · refine mBt (fun h5 => ?_) (fun h5 => ?_)
          · refine mBt (fun h6 => ?_) (fun h6 => ?_)
            · simp [h2] at h3
            · simp [h2] at h3
          · refine mBt (fun h6 => ?_) (fun h6 => ?_)
            · refine mBt (fun h7 => ?_) (fun h7 => ?_)
              · simp [h2] at h3
              · simp [h2] at h3
            · simp [h2] at h3
        · simp [h2] at h3
noncomputable def g11 : List V → Option (Bool × V) := fun | [.ints .u64 5 u, .ints .u64 5 y] => some (true, (V.bool (lawSquares u y))) | _ => none
theorem lawSquares_p (u : (Nat → Int)) (y : (Nat → Int)) : (∀ μ μ', V.den μ' (V.bool (lawSquares u y)) = V.den μ (V.bool (lawSquares u y))) ∧ ∀ μ w, PureAt Try.prog 11 (([(V.ints .u64 5 u), (V.ints .u64 5 y)] : List V).map (V.den μ)).toArray (V.den μ (V.bool (lawSquares u y))) w :=
  pure_ok (F := o10) (N := 300) (fn := Try.f11) (args := [(V.ints .u64 5 u), (V.ints .u64 5 y)]) (r := (V.bool (lawSquares u y))) (n := 89) hM o10_ok (noG_ok _) Try.func11 (by kernel_rfl) (by kernel_rfl) (by kernel_rfl) (by kernel_rfl) (lawSquares_a u y) (by kernel_rfl)
theorem g11_ok (vs : List V) (v : V) (h : g11 vs = some (true, v)) : (∀ μ μ', v.den μ' = v.den μ) ∧ ∀ μ w, PureAt Try.prog 11 (vs.map (V.den μ)).toArray (v.den μ) w := by
  unfold g11 at h
  split at h
  · simp only [Option.some.injEq, Prod.mk.injEq, true_and] at h
    subst h
    exact lawSquares_p _ _
  · simp at h
noncomputable def o11 : Orc := ext 11 g11 o10
theorem o11_ok : OrcOK Try.prog o11 := ext_ok o10_ok g11_ok
end Go.Proofs.Ytbnclikjbnfodaa
