/-
  p is a prime number; the small theorem of Fermat. Plain numbers, no program. Conditions: none.
-/
namespace Go.Num

/-- A prime number. -/
def Pr (n : Nat) : Prop := 2 ≤ n ∧ ∀ m, m ∣ n → m = 1 ∨ m = n

theorem Pr.coprime {q m : Nat} (hq : Pr q) (h : ¬ q ∣ m) : Nat.Coprime q m := by
  have h1 := hq.2 _ (Nat.gcd_dvd_left q m)
  rcases h1 with h1 | h1
  · exact h1
  · exact absurd (h1 ▸ Nat.gcd_dvd_right q m) h
theorem Pr.dvd_mul {q a b : Nat} (hq : Pr q) (h : q ∣ a * b) : q ∣ a ∨ q ∣ b := by
  by_cases ha : q ∣ a
  · exact .inl ha
  · exact .inr ((hq.coprime ha).dvd_of_dvd_mul_left h)

/-- A prime factor that is the number itself, or whose square is not above it. -/
theorem factor : ∀ n, 2 ≤ n → Pr n ∨ ∃ r, Pr r ∧ r ∣ n ∧ r * r ≤ n := by
  intro n
  induction n using Nat.strongRecOn with
  | _ n ih =>
    intro hn
    by_cases h : ∃ m, m ∣ n ∧ m ≠ 1 ∧ m ≠ n
    · obtain ⟨m, ⟨k, rfl⟩, h1, h2⟩ := h
      refine .inr ?_
      have hm0 : m ≠ 0 := by rintro rfl; simp at hn
      have hk0 : k ≠ 0 := by rintro rfl; simp at hn
      have hk1 : k ≠ 1 := by rintro rfl; simp at h2
      have key : ∀ a b, 2 ≤ a → 2 ≤ b → a ≤ b → a * b = m * k → ∃ r, Pr r ∧ r ∣ m * k ∧ r * r ≤ m * k := by
        intro a b ha hb hab he
        have hlt : a < m * k := by rw [← he]; exact Nat.lt_of_lt_of_le (by omega) (Nat.mul_le_mul_left a hb)
        have haa : a * a ≤ m * k := by rw [← he]; exact Nat.mul_le_mul_left a hab
        rcases ih a hlt ha with hp | ⟨r, hr, hd, hrr⟩
        · exact ⟨a, hp, ⟨b, he.symm⟩, haa⟩
        · exact ⟨r, hr, Nat.dvd_trans hd ⟨b, he.symm⟩, Nat.le_trans hrr (Nat.le_of_lt hlt)⟩
      rcases Nat.le_total m k with hle | hle
      · exact key m k (by omega) (by omega) hle rfl
      · exact key k m (by omega) (by omega) hle (Nat.mul_comm k m)
    · refine .inl ⟨hn, fun m hm => ?_⟩
      apply Classical.byContradiction
      intro hne
      exact h ⟨m, hm, fun e => hne (.inl e), fun e => hne (.inr e)⟩

/-! ### Fermat -/

/-- Choosing k of n. -/
def ch : Nat → Nat → Nat
  | _, 0 => 1
  | 0, _ + 1 => 0
  | n + 1, k + 1 => ch n k + ch n (k + 1)
theorem ch_gt : ∀ n k, n < k → ch n k = 0
  | 0, k + 1, _ => rfl
  | n + 1, k + 1, h => by rw [ch, ch_gt n k (by omega), ch_gt n (k + 1) (by omega)]
theorem ch_self : ∀ n, ch n n = 1
  | 0 => rfl
  | n + 1 => by rw [ch, ch_self n, ch_gt n (n + 1) (by omega)]
theorem ch_mul : ∀ n k, (k + 1) * ch (n + 1) (k + 1) = (n + 1) * ch n k
  | 0, 0 => rfl
  | 0, k + 1 => by rw [ch_gt 1 (k + 2) (by omega), ch_gt 0 (k + 1) (by omega)]; simp
  | n + 1, 0 => by
    have h := ch_mul n 0
    have h2 : ch (n + 1 + 1) (0 + 1) = ch (n + 1) 0 + ch (n + 1) (0 + 1) := rfl
    rw [h2]
    simp only [ch] at h ⊢
    omega
  | n + 1, k + 1 => by
    have h1 := ch_mul n k
    have h2 := ch_mul n (k + 1)
    rw [show ch (n + 1 + 1) (k + 1 + 1) = ch (n + 1) (k + 1) + ch (n + 1) (k + 1 + 1) from rfl]
    have h3 : ch (n + 1) (k + 1) = ch n k + ch n (k + 1) := rfl
    grind

theorem prime_ch {q : Nat} (hq : Pr q) {k : Nat} (h0 : 0 < k) (h1 : k < q) : q ∣ ch q k := by
  obtain ⟨k, rfl⟩ : ∃ j, k = j + 1 := ⟨k - 1, by omega⟩
  obtain ⟨n, rfl⟩ : ∃ j, q = j + 1 := ⟨q - 1, by omega⟩
  have h := ch_mul n k
  have hd : n + 1 ∣ (k + 1) * ch (n + 1) (k + 1) := ⟨ch n k, h⟩
  rcases hq.dvd_mul hd with h | h
  · exact absurd (Nat.le_of_dvd (by omega) h) (by omega)
  · exact h

/-- The sum of the first m terms of (a + 1)^n. -/
def bs (a n : Nat) : Nat → Nat
  | 0 => 0
  | m + 1 => bs a n m + ch n m * a ^ m
theorem bs_step (a n : Nat) : ∀ m, bs a (n + 1) (m + 1) = bs a n (m + 1) + a * bs a n m
  | 0 => by simp [bs, ch]
  | m + 1 => by
    have h := bs_step a n m
    rw [bs, h]
    rw [show bs a n (m + 1 + 1) = bs a n (m + 1) + ch n (m + 1) * a ^ (m + 1) from rfl]
    rw [show bs a n (m + 1) = bs a n m + ch n m * a ^ m from rfl]
    rw [show ch (n + 1) (m + 1) = ch n m + ch n (m + 1) from rfl, Nat.pow_succ]
    grind
theorem binomial (a : Nat) : ∀ n, (a + 1) ^ n = bs a n (n + 1)
  | 0 => by simp [bs, ch]
  | n + 1 => by
    rw [bs_step, Nat.pow_succ, binomial a n]
    rw [show bs a n (n + 1 + 1) = bs a n (n + 1) + ch n (n + 1) * a ^ (n + 1) from rfl, ch_gt n (n + 1) (by omega)]
    grind
theorem bs_mod {q : Nat} (hq : Pr q) (a : Nat) : ∀ m, m < q → bs a q (m + 1) % q = 1 % q
  | 0, _ => by simp [bs, ch]
  | m + 1, h => by
    rw [bs, Nat.add_mod, bs_mod hq a m (by omega)]
    obtain ⟨c, hc⟩ := prime_ch hq (k := m + 1) (by omega) h
    rw [hc, Nat.mul_assoc, Nat.mul_mod_right]
    simp
theorem fermat {q : Nat} (hq : Pr q) : ∀ a, a ^ q % q = a % q
  | 0 => by rw [Nat.zero_pow (by have := hq.1; omega)]
  | a + 1 => by
    have h2 := hq.1
    rw [binomial, bs, ch_self, Nat.one_mul, Nat.add_mod, fermat hq a]
    obtain ⟨m, hm⟩ : ∃ m, q = m + 1 := ⟨q - 1, by omega⟩
    have h := bs_mod hq a m (by omega)
    rw [← hm] at h
    rw [h, ← Nat.add_mod, Nat.add_comm]
theorem fermat1 {q : Nat} (hq : Pr q) {a : Nat} (h : ¬ q ∣ a) : a ^ (q - 1) % q = 1 % q := by
  have h2 := hq.1
  have h1 := fermat hq a
  obtain ⟨m, rfl⟩ : ∃ m, q = m + 1 := ⟨q - 1, by omega⟩
  rw [Nat.pow_succ] at h1
  simp only [Nat.add_sub_cancel]
  have hd : ((m + 1 : Nat) : Int) ∣ (a : Int) * ((a : Int) ^ m - 1) := by
    have : (((a ^ m * a : Nat) : Int) - (a : Int)) % ((m + 1 : Nat) : Int) = 0 := by
      have e : ((a ^ m * a : Nat) : Int) % ((m + 1 : Nat) : Int) = (a : Int) % ((m + 1 : Nat) : Int) := by exact_mod_cast h1
      rw [Int.sub_emod, e]; simp
    have e2 : (a : Int) * ((a : Int) ^ m - 1) = ((a ^ m * a : Nat) : Int) - (a : Int) := by push_cast; grind
    rw [e2]
    exact Int.dvd_of_emod_eq_zero this
  by_cases ha : a = 0
  · subst ha; exact absurd ⟨0, rfl⟩ h
  have h1 : 1 ≤ a ^ m := Nat.pow_pos (by omega)
  have hd2 : (m + 1) ∣ a * (a ^ m - 1) := by
    have : ((a * (a ^ m - 1) : Nat) : Int) = (a : Int) * ((a : Int) ^ m - 1) := by push_cast [h1]; rfl
    rw [← this] at hd
    exact_mod_cast hd
  have hd3 := (hq.coprime h).dvd_of_dvd_mul_left hd2
  obtain ⟨c, hc⟩ := hd3
  have : a ^ m = (m + 1) * c + 1 := by omega
  rw [this, Nat.add_comm, Nat.add_mul_mod_self_left]

theorem fermat_int {q : Nat} (hq : Pr q) {X : Int} (hx : X % q ≠ 0) : X ^ (q - 1) % q = 1 := by
  have h2 := hq.1
  obtain ⟨a, ha⟩ : ∃ a : Nat, X % q = (a : Int) := Int.eq_ofNat_of_zero_le (Int.emod_nonneg _ (by omega))
  have hn : ¬ q ∣ a := by
    rintro ⟨c, rfl⟩
    apply hx
    have h : X % q % q = 0 := by rw [ha]; push_cast; exact Int.mul_emod_right _ _
    rwa [Int.emod_emod_of_dvd _ (Int.dvd_refl _)] at h
  have h := fermat1 hq hn
  have h1 : ∀ n : Nat, (X % q) ^ n % q = X ^ n % q := by
    intro n
    induction n with
    | zero => simp
    | succ n ih => rw [Int.pow_succ, Int.pow_succ, Int.mul_emod, ih, Int.emod_emod_of_dvd _ (Int.dvd_refl _), ← Int.mul_emod]
  rw [← h1, ha]
  generalize q - 1 = m at *
  rw [Nat.mod_eq_of_lt (show 1 < q by omega)] at h
  exact_mod_cast h

/-! ### Powers modulo n, fast; a number all of whose prime factors are large -/

def pm (n : Nat) : Nat → Nat → Nat → Nat
  | 0, _, _ => 1 % n
  | fuel + 1, a, e => if e = 0 then 1 % n else if e % 2 = 0 then pm n fuel (a * a % n) (e / 2) else a * pm n fuel (a * a % n) (e / 2) % n
theorem pm_eq (n : Nat) : ∀ fuel a e, e < 2 ^ fuel → pm n fuel a e = a ^ e % n
  | 0, a, e, h => by
    obtain rfl : e = 0 := by simpa using h
    simp [pm]
  | fuel + 1, a, e, h => by
    unfold pm
    have hlt : e / 2 < 2 ^ fuel := by rw [Nat.pow_succ] at h; omega
    have ih := pm_eq n fuel (a * a % n) (e / 2) hlt
    have e1 : (a * a % n) ^ (e / 2) % n = (a * a) ^ (e / 2) % n := (Nat.pow_mod (a * a) (e / 2) n).symm
    have e2 : (a * a) ^ (e / 2) = a ^ (2 * (e / 2)) := by rw [Nat.pow_mul, Nat.pow_two]
    rw [ih, e1, e2]
    by_cases h0 : e = 0
    · subst h0; simp
    · rw [if_neg h0]
      by_cases hm : e % 2 = 0
      · rw [if_pos hm, show 2 * (e / 2) = e by omega]
      · rw [if_neg hm]
        have : e = 2 * (e / 2) + 1 := by omega
        conv => rhs; rw [this, Nat.pow_succ, Nat.mul_comm]
        rw [Nat.mul_mod, Nat.mod_mod, ← Nat.mul_mod]

theorem pow_gcd {r g : Nat} (hr : 1 < r) : ∀ a b, g ^ a % r = 1 → g ^ b % r = 1 → g ^ (Nat.gcd a b) % r = 1 := by
  intro a b
  induction a, b using Nat.gcd.induction with
  | H0 b => intro _ h; rw [Nat.gcd_zero_left]; exact h
  | H1 a b ha ih =>
    intro h1 h2
    rw [Nat.gcd_rec]
    refine ih ?_ h1
    have e : b = a * (b / a) + b % a := (Nat.div_add_mod b a).symm
    rw [e, Nat.pow_add, Nat.pow_mul, Nat.mul_mod, Nat.pow_mod, h1, Nat.one_pow, Nat.mod_eq_of_lt hr, Nat.one_mul, Nat.mod_mod] at h2
    exact h2

/-- Pocklington: n - 1 = q R, q a prime; g^(n - 1) is 1, and g^R - 1 has no factor in common with n; no factor 1 + k q below the root. -/
theorem pock {n q R g K : Nat} (hn : 2 ≤ n) (hq : Pr q) (hnq : n - 1 = q * R) (h1 : g ^ (n - 1) % n = 1) (h2 : Nat.gcd ((g ^ R % n + n - 1) % n) n = 1)
    (hK : n < (1 + (K + 1) * q) * (1 + (K + 1) * q)) (hk : ∀ k, k < K → n % (1 + (k + 1) * q) ≠ 0) : Pr n := by
  rcases factor n hn with h | ⟨r, hr, hd, hrr⟩
  · exact h
  exfalso
  have hr2 := hr.1
  have h1r : g ^ (n - 1) % r = 1 := by
    have : g ^ (n - 1) % n % r = 1 % r := by rw [h1]
    rw [Nat.mod_mod_of_dvd _ hd, Nat.mod_eq_of_lt (show 1 < r by omega)] at this
    exact this
  have hg : ¬ r ∣ g := by
    rintro ⟨c, rfl⟩
    obtain ⟨m, hm⟩ : ∃ m, n - 1 = m + 1 := ⟨n - 2, by omega⟩
    rw [hm, Nat.pow_succ, Nat.mul_comm, Nat.mul_assoc, Nat.mul_mod_right] at h1r
    omega
  have h2r := fermat1 hr hg
  rw [Nat.mod_eq_of_lt (show 1 < r by omega)] at h2r
  have hgcd := pow_gcd (by omega) _ _ h1r h2r
  by_cases hqr : q ∣ r - 1
  · obtain ⟨c, hc⟩ := hqr
    have hc0 : c ≠ 0 := by rintro rfl; omega
    have hrc : r = 1 + (c - 1 + 1) * q := by
      rw [show c - 1 + 1 = c by omega, Nat.mul_comm]; omega
    by_cases hcK : c - 1 < K
    · have := hk (c - 1) hcK
      rw [← hrc] at this
      exact this (Nat.mod_eq_zero_of_dvd hd)
    · have hle : 1 + (K + 1) * q ≤ r := by
        rw [hrc]
        have := Nat.mul_le_mul_right q (show K + 1 ≤ c - 1 + 1 by omega)
        omega
      have := Nat.mul_le_mul hle hle
      omega
  · have hcop := hq.coprime hqr
    have hgR : Nat.gcd (n - 1) (r - 1) ∣ R := by
      rw [hnq]
      have hc2 : Nat.Coprime (Nat.gcd (q * R) (r - 1)) q := by
        have h := Nat.gcd_dvd_right (q * R) (r - 1)
        exact (Nat.Coprime.coprime_dvd_right h hcop).symm
      exact hc2.dvd_of_dvd_mul_left (Nat.gcd_dvd_left _ _)
    obtain ⟨c, hc⟩ := hgR
    have hR : g ^ R % r = 1 := by
      rw [hc, Nat.pow_mul, Nat.pow_mod, hgcd, Nat.one_pow, Nat.mod_eq_of_lt (show 1 < r by omega)]
    have hdr : r ∣ (g ^ R % n + n - 1) % n := by
      have e1 : (g ^ R % n + n - 1) % n % r = (g ^ R % n + n - 1) % r := Nat.mod_mod_of_dvd _ hd
      have e2 : g ^ R % n % r = 1 := by rw [Nat.mod_mod_of_dvd _ hd, hR]
      obtain ⟨d, hd'⟩ := hd
      refine Nat.dvd_of_mod_eq_zero ?_
      rw [e1]
      have e3 : g ^ R % n = r * (g ^ R % n / r) + 1 := by
        have := Nat.div_add_mod (g ^ R % n) r
        omega
      have e4 : g ^ R % n + n - 1 = r * (g ^ R % n / r + d) := by
        rw [Nat.mul_add, ← hd']; omega
      rw [e4, Nat.mul_mod_right]
    have := Nat.dvd_gcd hdr hd
    rw [h2] at this
    have := Nat.le_of_dvd (by omega) this
    omega

theorem trial {n : Nat} (hn : 2 ≤ n) {K : Nat} (hK : n < (K + 2) * (K + 2)) (h : ∀ k, k < K → n % (k + 2) ≠ 0) : Pr n := by
  rcases factor n hn with h' | ⟨r, hr, hd, hrr⟩
  · exact h'
  exfalso
  have h2 := hr.1
  by_cases hlt : r - 2 < K
  · have := h (r - 2) hlt
    rw [show r - 2 + 2 = r by omega] at this
    exact this (Nat.mod_eq_zero_of_dvd hd)
  · have := Nat.mul_le_mul (show K + 2 ≤ r by omega) (show K + 2 ≤ r by omega)
    omega

theorem pock' {n q R g K : Nat} (hn : 2 ≤ n) (hb : n < 2 ^ 256) (hq : Pr q) (hnq : n - 1 = q * R) (h1 : pm n 256 g (n - 1) = 1) (h2 : Nat.gcd ((pm n 256 g R + n - 1) % n) n = 1)
    (hK : n < (1 + (K + 1) * q) * (1 + (K + 1) * q)) (hk : ∀ k, k < K → n % (1 + (k + 1) * q) ≠ 0) : Pr n := by
  have hq2 := hq.1
  have hR : R ≤ n - 1 := by rw [hnq]; exact Nat.le_mul_of_pos_left R (by omega)
  rw [pm_eq _ _ _ _ (Nat.lt_of_le_of_lt (Nat.sub_le n 1) hb)] at h1
  rw [pm_eq _ _ _ _ (Nat.lt_of_le_of_lt hR (Nat.lt_of_le_of_lt (Nat.sub_le n 1) hb))] at h2
  exact pock hn hq hnq h1 h2 hK hk

theorem pr991 : Pr 991 := trial (K := 30) (by decide) (by decide) (by decide)
theorem pr1 : Pr 8574133 := pock' (q := 991) (R := 8652) (g := 2) (K := 2) (by decide) (by decide) pr991 (by decide) (by decide +kernel) (by decide +kernel) (by decide) (by decide)
theorem pr2 : Pr 1919519569386763 := pock' (q := 8574133) (R := 223873314) (g := 2) (K := 5) (by decide) (by decide) pr1 (by decide) (by decide +kernel) (by decide +kernel) (by decide) (by decide)
theorem pr3 : Pr 75445702479781427272750846543864801 := pock' (q := 1919519569386763) (R := 39304471641247389600) (g := 2) (K := 143) (by decide) (by decide) pr2 (by decide) (by decide +kernel) (by decide +kernel) (by decide) (by decide +kernel)
theorem pr4 : Pr 74058212732561358302231226437062788676166966415465897661863160754340907 := pock' (q := 75445702479781427272750846543864801) (R := 981609426360740691344999861639072106) (g := 2) (K := 3) (by decide) (by decide) pr3 (by decide) (by decide +kernel) (by decide +kernel) (by decide) (by decide)
/-- 2^255 - 19 is a prime number. -/
theorem prP : Pr 57896044618658097711785492504343953926634992332820282019728792003956564819949 := pock' (q := 74058212732561358302231226437062788676166966415465897661863160754340907) (R := 781764) (g := 2) (K := 0) (by decide) (by decide) pr4 (by decide) (by decide +kernel) (by decide +kernel) (by decide) (by decide)
end Go.Num
