/-
  Acknowledgements by the set of the pairs: the plain law of the order. Conditions: none.
-/
import Derived.Test.YtomipglebaaagaaRE
namespace Go.Proofs.Ytomipglebaaagaa
open Go.Ev
theorem bool_ext {a b : Bool} (h : a = true ↔ b = true) : a = b := Bool.eq_iff_iff.2 h
theorem akA_iff {n : Nat} {r : Int} {l : Nat → Int} : ∀ {k : Nat}, akA n r l k = true ↔ ∀ i, i < k → goodB n r (l (2 * i)) (l (2 * i + 1)) = false
  | 0 => ⟨fun _ i hi => by omega, fun _ => rfl⟩
  | k + 1 => by
    simp only [akA]
    cases hg : goodB n r (l (2 * k)) (l (2 * k + 1)) with
    | true =>
      simp only [cond_true]
      exact ⟨fun h => (Bool.false_ne_true h).elim, fun h => by rw [h k (by omega)] at hg; cases hg⟩
    | false =>
      simp only [cond_false, akA_iff (k := k)]
      constructor
      · intro h i hi
        by_cases e : i = k
        · subst e; exact hg
        · exact h i (by omega)
      · exact fun h i hi => h i (by omega)
theorem akF_iff {n : Nat} {r : Int} {l : Nat → Int} {f : Nat → Bool} {j : Nat} : ∀ {k : Nat}, akF n r l f k j = true ↔ f j = true ∨ ∃ i, i < k ∧ goodB n r (l (2 * i)) (l (2 * i + 1)) = true ∧ Int.toNat (l (2 * i) - 1) = j
  | 0 => ⟨fun h => .inl h, fun h => h.elim id fun ⟨i, hi, _⟩ => by omega⟩
  | k + 1 => by
    simp only [akF]
    cases hg : goodB n r (l (2 * k)) (l (2 * k + 1)) with
    | false =>
      simp only [cond_false, akF_iff (k := k)]
      constructor
      · rintro (h | ⟨i, h1, h2, h3⟩)
        · exact .inl h
        · exact .inr ⟨i, by omega, h2, h3⟩
      · rintro (h | ⟨i, h1, h2, h3⟩)
        · exact .inl h
        · refine .inr ⟨i, ?_, h2, h3⟩
          have : i ≠ k := fun e => by subst e; rw [hg] at h2; cases h2
          omega
    | true =>
      simp only [cond_true]
      by_cases e : j = Int.toNat (l (2 * k) - 1)
      · subst e
        rw [up_same]
        exact ⟨fun _ => .inr ⟨k, by omega, hg, rfl⟩, fun _ => rfl⟩
      · rw [up_ne _ _ e, akF_iff (k := k)]
        constructor
        · rintro (h | ⟨i, h1, h2, h3⟩)
          · exact .inl h
          · exact .inr ⟨i, by omega, h2, h3⟩
        · rintro (h | ⟨i, h1, h2, h3⟩)
          · exact .inl h
          · refine .inr ⟨i, ?_, h2, h3⟩
            have : i ≠ k := fun e2 => by subst e2; exact e h3.symm
            omega
theorem akT_le {n : Nat} {r : Int} {l : Nat → Int} {t x : Int} : ∀ {k : Nat}, akT n r l t k ≤ x ↔ t ≤ x ∧ ∀ i, i < k → goodB n r (l (2 * i)) (l (2 * i + 1)) = true → l (2 * i + 1) ≤ x
  | 0 => ⟨fun h => ⟨h, fun i hi => by omega⟩, fun h => h.1⟩
  | k + 1 => by
    simp only [akT]
    cases hg : goodB n r (l (2 * k)) (l (2 * k + 1)) with
    | false =>
      simp only [cond_false, akT_le (k := k)]
      constructor
      · rintro ⟨h1, h2⟩
        refine ⟨h1, fun i hi hgi => ?_⟩
        have : i ≠ k := fun e => by subst e; rw [hg] at hgi; cases hgi
        exact h2 i (by omega) hgi
      · rintro ⟨h1, h2⟩
        exact ⟨h1, fun i hi hgi => h2 i (by omega) hgi⟩
    | true =>
      simp only [cond_true, maxI_max]
      rw [Int.max_le, akT_le (k := k)]
      constructor
      · rintro ⟨⟨h1, h2⟩, h3⟩
        refine ⟨h1, fun i hi hgi => ?_⟩
        by_cases e : i = k
        · subst e; exact h3
        · exact h2 i (by omega) hgi
      · rintro ⟨h1, h2⟩
        exact ⟨⟨h1, fun i hi hgi => h2 i (by omega) hgi⟩, h2 k (by omega) hg⟩
theorem int_ext {a b : Int} (h : ∀ x, a ≤ x ↔ b ≤ x) : a = b := Int.le_antisymm ((h b).2 (Int.le_refl _)) ((h a).1 (Int.le_refl _))
/-- The pairs of the one are among the other's. -/
def Sub (l : Nat → Int) (k : Nat) (l' : Nat → Int) (k' : Nat) : Prop := ∀ i, i < k → ∃ i', i' < k' ∧ l' (2 * i') = l (2 * i) ∧ l' (2 * i' + 1) = l (2 * i + 1)
section
variable {n : Nat} {r : Int} {l l' : Nat → Int} {k k' : Nat}
theorem sub_A (h : Sub l k l' k') (ha : akA n r l' k' = true) : akA n r l k = true := akA_iff.2 fun i hi => by
  obtain ⟨i', h1, h2, h3⟩ := h i hi
  rw [← h2, ← h3]; exact akA_iff.1 ha i' h1
theorem sub_F {f : Nat → Bool} {j : Nat} (h : Sub l k l' k') (ha : akF n r l f k j = true) : akF n r l' f k' j = true := akF_iff.2 <| (akF_iff.1 ha).imp id fun ⟨i, hi, hg, hj⟩ => by
  obtain ⟨i', h1, h2, h3⟩ := h i hi
  exact ⟨i', h1, by rw [h2, h3]; exact hg, by rw [h2]; exact hj⟩
theorem sub_T {t x : Int} (h : Sub l k l' k') (ha : akT n r l' t k' ≤ x) : akT n r l t k ≤ x := by
  obtain ⟨h1, h2⟩ := akT_le.1 ha
  refine akT_le.2 ⟨h1, fun i hi hg => ?_⟩
  obtain ⟨i', e1, e2, e3⟩ := h i hi
  rw [← e3]; exact h2 i' e1 (by rw [e2, e3]; exact hg)
theorem set_A (h : Sub l k l' k') (h' : Sub l' k' l k) : akAO n r l k = akAO n r l' k' := by rw [akAO_eq]; exact bool_ext ⟨sub_A h', sub_A h⟩
theorem set_F {f : Nat → Bool} (h : Sub l k l' k') (h' : Sub l' k' l k) (j : Nat) : akFO n r l f k j = akFO n r l' f k' j := by rw [akFO_eq]; exact bool_ext ⟨sub_F h, sub_F h'⟩
theorem set_T {t : Int} (h : Sub l k l' k') (h' : Sub l' k' l k) : akTO n r l t k = akTO n r l' t k' := by rw [akTO_eq]; exact int_ext fun x => ⟨sub_T h', sub_T h⟩
theorem none_F {f : Nat → Bool} (h : akAO n r l k = true) (j : Nat) : akFO n r l f k j = f j := by
  rw [akAO_eq] at h; rw [akFO_eq]
  refine bool_ext (akF_iff.trans ⟨fun h' => h'.elim id fun ⟨i, h1, h2, _⟩ => ?_, .inl⟩)
  rw [akA_iff.1 h i h1] at h2; cases h2
theorem none_T {t : Int} (h : akAO n r l k = true) : akTO n r l t k = t := by
  rw [akAO_eq] at h; rw [akTO_eq]
  refine int_ext fun x => akT_le.trans ⟨fun h' => h'.1, fun h' => ⟨h', fun i h1 h2 => ?_⟩⟩
  rw [akA_iff.1 h i h1] at h2; cases h2
end
-- mixed
theorem ixA_lt {k : Nat} {lp : Nat → Int} : ∀ p x, x ∈ ixA k lp p → x < k
  | 0, x, h => by simp [ixA] at h
  | p + 1, x, h => by
    simp only [ixA, List.mem_append] at h
    rcases h with h | h
    · exact ixA_lt p x h
    · cases hg : goodP k (lp p) with
      | false => rw [hg] at h; simp at h
      | true =>
        rw [hg] at h
        simp only [cond_true, List.mem_singleton] at h
        simp only [goodP, Bool.and_eq_true, decide_eq_true_eq] at hg
        have := rem_in hg.2 hg.1
        omega
theorem ixB_mem {k : Nat} {b : List Nat} : ∀ t x, x ∈ ixB k b t ↔ x ∈ b ∨ ∃ s, s < t ∧ x = k - 1 - s
  | 0, x => by simp [ixB]
  | t + 1, x => by
    simp only [ixB, List.mem_append, List.mem_singleton, ixB_mem t x]
    constructor
    · rintro ((h | ⟨s, h1, h2⟩) | h)
      · exact .inl h
      · exact .inr ⟨s, by omega, h2⟩
      · exact .inr ⟨t, by omega, h⟩
    · rintro (h | ⟨s, h1, h2⟩)
      · exact .inl (.inl h)
      · by_cases e : s = t
        · subst e; exact .inr h2
        · exact .inl (.inr ⟨s, by omega, h2⟩)
theorem ixs_lt {k kp : Nat} {lp : Nat → Int} {x : Nat} (h : x ∈ ixs k kp lp) : x < k := by
  rcases (ixB_mem k x).1 h with h | ⟨s, h1, rfl⟩
  · exact ixA_lt kp x h
  · omega
theorem ixs_all {k kp : Nat} {lp : Nat → Int} {x : Nat} (h : x < k) : x ∈ ixs k kp lp := (ixB_mem k x).2 (.inr ⟨k - 1 - x, by omega, by omega⟩)
section
variable {k kp : Nat} {lp l hh : Nat → Int}
theorem mx_row {q : Nat} (hq : q < mxO k kp lp) : apx (2 * mxO k kp lp) (mxDO k kp lp l) hh (2 * q) = l (2 * (ixs k kp lp).getD q 0) ∧ apx (2 * mxO k kp lp) (mxDO k kp lp l) hh (2 * q + 1) = l (2 * (ixs k kp lp).getD q 0 + 1) := by
  rw [apx_at, apx_at, if_pos (by omega), if_pos (by omega), mxDO_eq]
  unfold mxD
  rw [show 2 * q / 2 = q by omega, show 2 * q % 2 = 0 by omega, show (2 * q + 1) / 2 = q by omega, show (2 * q + 1) % 2 = 1 by omega]
  exact ⟨rfl, rfl⟩
theorem mx_sub : Sub (apx (2 * mxO k kp lp) (mxDO k kp lp l) hh) (mxO k kp lp) l k := fun q hq => by
  obtain ⟨h1, h2⟩ := mx_row (l := l) (hh := hh) hq
  have hq' : q < (ixs k kp lp).length := by rw [mxO_eq] at hq; exact hq
  have e : (ixs k kp lp).getD q 0 = (ixs k kp lp)[q] := by simp [List.getD_eq_getElem?_getD, hq']
  exact ⟨_, ixs_lt (by rw [e]; exact List.getElem_mem hq'), h1.symm, h2.symm⟩
theorem mx_sup : Sub l k (apx (2 * mxO k kp lp) (mxDO k kp lp l) hh) (mxO k kp lp) := fun i hi => by
  obtain ⟨q, hq, he⟩ := List.mem_iff_getElem.1 (ixs_all (kp := kp) (lp := lp) hi)
  have hq2 : q < mxO k kp lp := by rw [mxO_eq]; exact hq
  obtain ⟨h1, h2⟩ := mx_row (l := l) (hh := hh) hq2
  have e : (ixs k kp lp).getD q 0 = i := by simp [List.getD_eq_getElem?_getD, hq, he]
  rw [e] at h1 h2
  exact ⟨q, hq2, h1, h2⟩
theorem mx_le : mxO k kp lp ≤ kp + k := by
  rw [mxO_eq]
  unfold mxN ixs
  rw [ixB_len]
  have := ix_len (k := k) (lp := lp) kp
  omega
theorem mx_zero (h : Nat.beq (mxO k kp lp) 0 = true) : k = 0 := by
  have h := beqT.1 h
  rw [mxO_eq] at h
  by_cases e : k = 0
  · exact e
  · have := ixs_all (k := k) (kp := kp) (lp := lp) (x := 0) (by omega)
    have := List.length_pos_of_mem this
    unfold mxN at h
    omega
end
theorem slo_le (c k : Nat) : slo c k 2 ≤ 2 * k := by
  unfold slo
  cases Nat.beq k 0 <;> cases Nat.beq c k <;> simp <;> omega
theorem slo_eq {c k : Nat} (h : c ≠ k) : slo c k 2 = 2 * k := by
  unfold slo
  rw [show Nat.beq c k = false from ff beqT h]
  by_cases e : k = 0
  · subst e; rfl
  · rw [show Nat.beq k 0 = false from ff beqT e]; simp; omega
section
variable {n : Nat} {r : Int} {l : Nat → Int} {k c a : Nat}
theorem cut_row {i : Nat} (hk : k ≤ c) (hi : i < k - a) : sh (0 + slo c a 2) l (2 * i) = l (2 * (a + i)) ∧ sh (0 + slo c a 2) l (2 * i + 1) = l (2 * (a + i) + 1) := by
  rw [slo_eq (by omega), sh_at, sh_at]
  exact ⟨by congr 1; omega, by congr 1; omega⟩
theorem cut_A (hk : k ≤ c) (ha : a ≤ k) (h : akAO n r l k = true) : akAO n r l a = true ∧ akAO n r (sh (0 + slo c a 2) l) (k - a) = true := by
  rw [akAO_eq] at *
  refine ⟨akA_iff.2 fun i hi => akA_iff.1 h i (by omega), akA_iff.2 fun i hi => ?_⟩
  obtain ⟨h1, h2⟩ := cut_row (l := l) hk hi
  rw [h1, h2]; exact akA_iff.1 h _ (by omega)
theorem cut_F (hk : k ≤ c) (ha : a ≤ k) (j : Nat) : akFO n r l (fun _ => false) k j = orB (akFO n r l (fun _ => false) a) (akFO n r (sh (0 + slo c a 2) l) (fun _ => false) (k - a)) j := by
  rw [akFO_eq]
  unfold orB
  refine bool_ext ?_
  rw [Bool.or_eq_true, akF_iff, akF_iff, akF_iff]
  simp only [Bool.false_eq_true, false_or]
  constructor
  · rintro ⟨i, h1, h2, h3⟩
    by_cases e : i < a
    · exact .inl ⟨i, e, h2, h3⟩
    · obtain ⟨e1, e2⟩ := cut_row (l := l) hk (show i - a < k - a by omega)
      rw [show a + (i - a) = i by omega] at e1 e2
      exact .inr ⟨i - a, by omega, by rw [e1, e2]; exact h2, by rw [e1]; exact h3⟩
  · rintro (⟨i, h1, h2, h3⟩ | ⟨i, h1, h2, h3⟩)
    · exact ⟨i, by omega, h2, h3⟩
    · obtain ⟨e1, e2⟩ := cut_row (l := l) hk h1
      rw [e1, e2] at h2; rw [e1] at h3
      exact ⟨a + i, by omega, h2, h3⟩
theorem cut_T (hk : k ≤ c) (ha : a ≤ k) : akTO n r l 0 k = maxI (akTO n r l 0 a) (akTO n r (sh (0 + slo c a 2) l) 0 (k - a)) := by
  rw [akTO_eq, maxI_max]
  refine int_ext fun x => ?_
  rw [Int.max_le, akT_le, akT_le, akT_le]
  constructor
  · rintro ⟨h1, h2⟩
    refine ⟨⟨h1, fun i hi => h2 i (by omega)⟩, h1, fun i hi hg => ?_⟩
    obtain ⟨e1, e2⟩ := cut_row (l := l) hk hi
    rw [e1, e2] at hg; rw [e2]
    exact h2 _ (by omega) hg
  · rintro ⟨⟨h1, h2⟩, _, h3⟩
    refine ⟨h1, fun i hi hg => ?_⟩
    by_cases e : i < a
    · exact h2 i e hg
    · obtain ⟨e1, e2⟩ := cut_row (l := l) hk (show i - a < k - a by omega)
      rw [show a + (i - a) = i by omega] at e1 e2
      rw [← e2]; exact h3 (i - a) (by omega) (by rw [e1, e2]; exact hg)
end
end Go.Proofs.Ytomipglebaaagaa
