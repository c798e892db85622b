/-
  The evaluator's quiet operations say what the model says. Conditions: none.
-/
import Derived.Test.YtbnclikjbnfodaaFvB
namespace Go.Ev
open RowKit (Below)

section
variable {P : Program} {μ : Mu}

theorem dens_getD (l : List V) : (V.agg l).den μ = .agg (l.map (V.den μ)).toArray := by simp [V.den, dens_map]

theorem evs_den {t : List V} : ∀ {l : List Operand} {vs : List V}, evs t l = some vs → l.map (act μ t).eval = vs.map (V.den μ)
  | [], vs, h => by simp [evs] at h; subst h; rfl
  | x :: l, vs, h => by
    simp only [evs] at h
    split at h
    · rename_i v ws h1 h2
      simp only [Option.some.injEq] at h; subst h
      simp only [List.map_cons, evs_den h2]
      rw [show (act μ t).eval x = v.den μ from ev_den h1]
    · simp at h

theorem evParts_den {t : List V} : ∀ {l : List (Nat × Operand)} {vs : List (Nat × V)}, evParts t l = some vs → l.map (fun p => (p.1, (act μ t).eval p.2)) = vs.map fun p => (p.1, p.2.den μ)
  | [], vs, h => by simp [evParts] at h; subst h; rfl
  | (i, x) :: l, vs, h => by
    simp only [evParts] at h
    split at h
    · rename_i v ws h1 h2
      simp only [Option.some.injEq] at h; subst h
      simp only [List.map_cons, evParts_den h2]
      rw [show (act μ t).eval x = v.den μ from ev_den h1]
    · simp at h

/-! ### Types -/

theorem tyk_some {t : TypeId} {k : Option Nat} (h : tyk P t = some k) (w : World) : ∃ i, P.info? t = some i ∧ k.getD 1 = i.size ∧ (isAgg t).run P w = .ok k.isSome w := by
  unfold tyk at h
  split at h
  · rename_i fs i hu hi
    simp only [Option.some.injEq] at h; subst h
    exact ⟨i, hi, rfl, by simp [isAgg, run_underlying hu]⟩
  · rename_i n e i hu hi
    simp only [Option.some.injEq] at h; subst h
    exact ⟨i, hi, rfl, by simp [isAgg, run_underlying hu]⟩
  · rename_i d i _ _ hu hi
    split at h
    · rename_i hs
      simp only [Option.some.injEq] at h; subst h
      refine ⟨_, hi, by simp [hs], ?_⟩
      unfold isAgg
      rw [Sem.run_bind, run_underlying hu w]
      cases d <;> first | rfl | (exfalso; simp_all)
    · simp at h
  · simp at h

theorem run_size {t : TypeId} {i : TypeInfo} (h : P.info? t = some i) (w : World) : (sizeOf t).run P w = .ok i.size w := by
  simp [sizeOf, typeInfo, h]

/-! ### Reading -/

theorem run_loadVar {B : Blk} {w0 w : World} {m : List V} (hr : Rel μ B w0 m w) {id off : Nat} {t : TypeId} {v : V} (h : loadV P m t (.ptr id off) = some (true, v)) :
    (loadVar t ⟨(μ id).1, (μ id).2 + off, none⟩).run P w = .ok (v.den μ) w := by
  unfold loadV at h
  simp only at h
  split at h
  · rename_i c k hc hk
    obtain ⟨i, hi, hsz, hagg⟩ := tyk_some hk w
    cases k with
    | none =>
      simp only [loadVar, Sem.run_bind, hagg, Option.isSome_none, Result.andThen_ok, Bool.false_eq_true, if_false]
      rw [run_load, hr.cell hc (rdT_one h)]
    | some n =>
      obtain ⟨cs, e1, e2, e3⟩ := rdT_many (μ := μ) h
      have hl : (loadCells ⟨(μ id).1, (μ id).2 + off, none⟩ n).run P w = .ok cs.toArray w := by
        rw [← e3]
        refine run_loadCells_list (P := P) w _ cs fun j v' hv => ?_
        have hadd : (⟨(μ id).1, (μ id).2 + off, none⟩ : Addr).add j = ⟨(μ id).1, (μ id).2 + (off + j), none⟩ := by
          unfold Addr.add; split <;> simp_all [Nat.add_assoc]
        rw [e2, List.getElem?_take] at hv
        split at hv
        · rw [hadd]
          exact hr.cell hc (by simpa using hv)
        · simp at hv
      simp only [Option.getD_some] at hsz
      simp only [loadVar, Sem.run_bind, hagg, Option.isSome_some, Result.andThen_ok, if_true, run_size hi, ← hsz, hl, Sem.run_pure, e1]
  · simp at h

theorem run_part {c v : V} {off : Nat} {t : TypeId} {k : Option Nat} (hk : tyk P t = some k) (h : rd c off k = some (true, v)) (w : World) :
    (part t (c.den μ).cells off).run P w = .ok (v.den μ) w := by
  obtain ⟨i, hi, hsz, hagg⟩ := tyk_some hk w
  cases k with
  | none =>
    simp only [part, Sem.run_bind, hagg, Option.isSome_none, Result.andThen_ok, Bool.false_eq_true, if_false, rd_one h]
    rfl
  | some n =>
    obtain ⟨cs, e1, e2, e3⟩ := rd_many (μ := μ) h
    simp only [Option.getD_some] at hsz
    simp only [part, Sem.run_bind, hagg, Option.isSome_some, Result.andThen_ok, if_true, run_size hi, ← hsz, Sem.run_pure, e1]
    congr 2
    rw [← Array.toList_inj, Array.toList_extract, List.extract_eq_drop_take', e2]
    simp [List.take_drop]

theorem den_agg_of {c : V} (h : ∃ a, c.den μ = .agg a) : c.den μ = .agg (c.den μ).cells := by
  obtain ⟨a, ha⟩ := h
  rw [ha]; rfl

theorem agg_of_not_scalar {c : V} (h : c.scalar = false) (h' : ∀ l, c ≠ .tup l) (h2 : ∀ v, c ≠ .val v) : ∃ a, c.den μ = .agg a := by
  cases c <;> simp [V.scalar] at h <;> first | exact ⟨_, by simp [V.den]; rfl⟩ | exact absurd rfl (h' _) | exact absurd rfl (h2 _)


/-! ### Operators -/

theorem run_intBin {op : BinOp} {k k' : IntKind} {a b : Int} {v : V} (h : intBin op k a k' b = some (true, v)) (t : TypeId) (w : World) :
    (binOp op t (.int k a) (.int k' b)).run P w = .ok (v.den μ) w := by
  cases op <;> simp only [intBin, Option.some.injEq, Prod.mk.injEq, Bool.and_eq_true, decide_eq_true_eq] at h
  case shl | shr =>
    obtain ⟨h1, rfl⟩ := h
    simp [binOp, Op.shift, Int.not_lt.2 h1, V.den, shlI, shrI]
  case quo | rem =>
    obtain ⟨⟨h1, h2⟩, rfl⟩ := h
    have h1 := eqK_eq h1; subst h1
    have h2 : b ≠ 0 := by simpa using h2
    simp [binOp, Op.intDiv, h2, V.den, quoI, remI]
  all_goals
    obtain ⟨h1, rfl⟩ := h
    have h1 := eqK_eq h1; subst h1
    simp [binOp, Op.intArith, Op.intBits, Op.intCmp, V.den, addI, subI, mulI, andI, orI, xorI, andNotI, bits2]

theorem run_eqGuard_scalar {op : BinOp} {t : TypeId} (x y : Operand) {a b : Value} (ha : a ≠ .nilIface) (ha' : ∀ c, a ≠ .agg c) (w : World) :
    (eqGuard op t x y a b).run P w = .ok () w := by
  cases a <;> first | exact absurd rfl ha | exact absurd rfl (ha' _) | (cases op <;> simp [eqGuard])

theorem eqN_range (f g : Nat → Int) : ∀ n, (List.range n).all (fun i => f i == g i) = eqN n f g
  | 0 => rfl
  | n + 1 => by rw [List.range_succ, List.all_append, eqN_range f g n]; simp [eqN]

theorem run_eqItems_ints {e : TypeId} {k : IntKind} {i : TypeInfo} {n : Nat} {f g : Nat → Int} (d : Nat) (he : P.underlying e = some (.int k)) (hi : P.info? e = some i) (hs : i.size = 1) (w : World) :
    ∀ is : List Nat, (∀ j ∈ is, j < n) → (Op.eqItems (d + 1) e (P.cellsOf e) (((List.range n).map fun j => Value.int k (f j)).toArray) (((List.range n).map fun j => Value.int k (g j)).toArray) is).run P w = .ok (is.all fun j => f j == g j) w
  | [], _ => by simp [Op.eqItems]
  | j :: is, h => by
    have hj := h j (by simp)
    have hc : P.cellsOf e = 1 := by simp [Program.cellsOf, hi, hs]
    have hagg : (isAgg e).run P w = .ok false w := by simp [isAgg, run_underlying he]
    have hp : ∀ q : Nat → Int, (part e (((List.range n).map fun j => Value.int k (q j)).toArray) (j * P.cellsOf e)).run P w = .ok (.int k (q j)) w := by
      intro q
      simp [part, hagg, hc, hj]
    have ih := run_eqItems_ints d he hi hs w is (fun x hx => h x (by simp [hx])) (f := f) (g := g) (n := n)
    rw [Op.eqItems]
    simp only [Sem.run_bind, hp, Result.andThen_ok]
    simp only [Op.equalIn, Sem.run_bind, run_underlying he, Result.andThen_ok, if_true, Sem.run_pure]
    by_cases hq : f j = g j
    · have : (f j == g j) = true := by simpa using hq
      simp only [this, Bool.not_true, Bool.false_eq_true, if_false, ih, List.all_cons, Bool.true_and]
    · have : (f j == g j) = false := by simpa using hq
      simp [this]

theorem run_equalIn_ints (d : Nat) {t : TypeId} {k : IntKind} {n : Nat} {f g : Nat → Int} (h : isIntArr P t k n = true) (w : World) :
    (Op.equalIn (d + 2) t ((V.ints k n f).den μ) ((V.ints k n g).den μ)).run P w = .ok (eqN n f g) w := by
  unfold isIntArr at h
  split at h
  · rename_i m e hu
    simp only [Bool.and_eq_true] at h
    obtain ⟨hm, h⟩ := h
    have hm := beqT.1 hm; subst hm
    split at h
    · rename_i k' i he hi
      simp only [Bool.and_eq_true] at h
      have hk := eqK_eq h.1; subst hk
      have hs := beqT.1 h.2
      simp only [V.den]
      rw [run_equalIn_array w (d + 1) _ _ hu hi]
      rw [run_eqItems_ints d he hi hs w (List.range m) (fun j hj => List.mem_range.1 hj), eqN_range]
    · simp at h
  · simp at h

theorem eqN_all {f g : Nat → Int} : ∀ {n : Nat}, eqN n f g = true ↔ ∀ j, j < n → f j = g j
  | 0 => by simp [eqN]
  | n + 1 => by
    rw [eqN, Bool.and_eq_true, eqN_all, beq_iff_eq]
    constructor
    · intro ⟨h1, h2⟩ j hj
      rcases Nat.lt_or_ge j n with h | h
      · exact h1 j h
      · rw [show j = n by omega]; exact h2
    · exact fun h => ⟨fun j hj => h j (by omega), h n (by omega)⟩
theorem intArr_spec {t : TypeId} {k : IntKind} {m : Nat} (h : intArr P t k = some m) : isIntArr P t k m = true ∧ (∃ e, P.underlying t = some (.array m e)) ∧ ∃ j, P.info? t = some j ∧ j.size = m := by
  unfold intArr at h
  split at h
  · rename_i m' e j hu hj
    split at h
    · rename_i k' i he hi
      split at h
      · rename_i hc
        simp only [Option.some.injEq] at h
        subst h
        simp only [Bool.and_eq_true] at hc
        refine ⟨?_, ⟨e, hu⟩, j, hj, beqT.1 hc.2⟩
        unfold isIntArr
        simp only [hu, he, hi, hc.1.1, hc.1.2, Bool.and_self, Bool.and_true]
        exact beqT.2 rfl
      · cases h
    · cases h
  · cases h
theorem extract_ints {k : IntKind} {n o m : Nat} {f : Nat → Int} (h : o + m ≤ n) : (((List.range n).map fun j => Value.int k (f j)).toArray).extract o (o + m) = ((List.range m).map fun j => Value.int k (f (o + j))).toArray := by
  apply Array.ext
  · simp; omega
  · intro i h1 h2
    simp at h1 h2 ⊢
theorem run_eqFields_ints {k : IntKind} {n : Nat} {f g : Nat → Int} (w : World) : ∀ (fs : List Field) (o : Nat), intFields P k fs o = some n →
    o ≤ n ∧ ∃ r, (Op.eqFields 9999 (((List.range n).map fun j => Value.int k (f j)).toArray) (((List.range n).map fun j => Value.int k (g j)).toArray) fs).run P w = .ok r w ∧ (r = true ↔ ∀ j, o ≤ j → j < n → f j = g j)
  | [], o, h => by
    simp only [intFields, Option.some.injEq] at h
    subst h
    exact ⟨Nat.le_refl _, true, by simp [Op.eqFields], by simp; omega⟩
  | fd :: fs, o, h => by
    unfold intFields at h
    split at h
    · rename_i m hm
      split at h
      · rename_i hc
        simp only [Bool.and_eq_true, Bool.not_eq_true', beq_eq_false_iff_ne] at hc
        obtain ⟨ho, hn⟩ := hc
        have ho := beqT.1 ho
        obtain ⟨hle, r, hr, hiff⟩ := run_eqFields_ints (f := f) (g := g) w fs (o + m) h
        obtain ⟨ha, ⟨e, hu⟩, j, hj, hsz⟩ := intArr_spec hm
        have hc : P.cellsOf fd.type = m := by simp [Program.cellsOf, hj, hsz]
        have he : ∀ q : Nat → Int, (part fd.type (((List.range n).map fun j => Value.int k (q j)).toArray) fd.offset).run P w = .ok ((V.ints k m (fun j => q (o + j))).den (fun _ => (0, 0))) w := by
          intro q
          simp only [part, isAgg, Sem.run_bind, run_underlying hu, Result.andThen_ok, Sem.run_pure, if_true, run_sizeOf w hj, hc, ho, extract_ints hle, V.den]
        have hq := run_equalIn_ints (P := P) (μ := fun _ => (0, 0)) 9997 (f := fun j => f (o + j)) (g := fun j => g (o + j)) ha w
        refine ⟨by omega, ?_⟩
        simp only [Op.eqFields, ne_eq, hn, not_false_eq_true, if_true, Sem.run_bind, he, Result.andThen_ok, hq]
        cases hb : eqN m (fun j => f (o + j)) (fun j => g (o + j)) with
        | false =>
          refine ⟨false, by simp, ⟨fun h => absurd h (by simp), fun hcon => ?_⟩⟩
          have : eqN m (fun j => f (o + j)) (fun j => g (o + j)) = true := eqN_all.2 fun j hj => hcon (o + j) (by omega) (by omega)
          rw [this] at hb; cases hb
        | true =>
          refine ⟨r, by simpa using hr, ?_⟩
          rw [hiff]
          have hb := eqN_all.1 hb
          constructor
          · intro h1 j h2 h3
            rcases Nat.lt_or_ge j (o + m) with h4 | h4
            · have := hb (j - o) (by omega)
              rwa [show o + (j - o) = j by omega] at this
            · exact h1 j h4 h3
          · exact fun h1 j h2 h3 => h1 j (by omega) h3
      · cases h
    · cases h
theorem run_equal_ints {t : TypeId} {k : IntKind} {n : Nat} {f g : Nat → Int} (h : (isIntArr P t k n || isIntStruct P t k n) = true) (w : World) :
    (Op.equal t ((V.ints k n f).den μ) ((V.ints k n g).den μ)).run P w = .ok (eqN n f g) w := by
  rw [Bool.or_eq_true] at h
  rcases h with h | h
  · exact run_equalIn_ints 9998 h w
  · unfold isIntStruct at h
    split at h
    · rename_i fs hu
      simp only [Bool.and_eq_true, Bool.not_eq_true'] at h
      obtain ⟨hs, h⟩ := h
      have hf : P.fieldsOf t = fs := by simp [Program.fieldsOf, hu]
      split at h
      · rename_i m hm
        have h := beqT.1 h; subst h
        rw [← hf] at hm
        obtain ⟨_, r, hr, hiff⟩ := run_eqFields_ints (f := f) (g := g) w _ 0 hm
        unfold Op.equal Op.maxDepth
        simp only [V.den]
        rw [run_equalIn_struct w 9999 t _ _ (by rw [hf]; exact hu) hs, hr]
        congr 1
        rw [Bool.eq_iff_iff, hiff, eqN_all]
        exact ⟨fun g j hj => g j (by omega) hj, fun g j _ hj => g j hj⟩
      · cases h
    · cases h

theorem run_equal_bool {t : TypeId} {a b : Bool} (h : P.underlying t = some .bool) {w : World} : (Op.equal t (.bool a) (.bool b)).run P w = .ok (a == b) w :=
  run_equalIn_bool' w 9999 t a b h

theorem run_equalIn_nil (d : Nat) {t e : TypeId} {a : Option Addr} {l c : Nat} (h : P.underlying t = some (.slice e)) {w : World} : (Op.equalIn (d + 1) t (.slice a l c) (.slice none 0 0)).run P w = .ok a.isNone w := by
  cases a <;> simp [Op.equalIn, run_underlying h]
theorem run_equal_nil {t e : TypeId} {a : Option Addr} {l c : Nat} (h : P.underlying t = some (.slice e)) {w : World} : (Op.equal t (.slice a l c) (.slice none 0 0)).run P w = .ok a.isNone w := run_equalIn_nil 9999 h
theorem run_binV {op : BinOp} {t : TypeId} {a b v : V} (h : binV P op t a b = some (true, v)) (x y : Operand) (w : World) :
    (do eqGuard op t x y (a.den μ) (b.den μ); binOp op t (a.den μ) (b.den μ)).run P w = .ok (v.den μ) w := by
  unfold binV at h
  split at h
  · rename_i k p k' q
    simp only [V.den, Sem.run_bind]
    rw [run_eqGuard_scalar x y (by simp) (by simp) w]
    simp only [Result.andThen_ok]
    exact run_intBin h t w
  · rename_i k n f k' n' g
    split at h
    · simp only [Option.some.injEq, Prod.mk.injEq, Bool.and_eq_true] at h
      obtain ⟨⟨⟨⟨hk, hn⟩, hi⟩, hg⟩, rfl⟩ := h
      have hk := eqK_eq hk; subst hk
      have hn := beqT.1 hn; subst hn
      have hg : P.eqGuardType P.depth t = false := by simpa using hg
      have he := run_equal_ints (μ := μ) (f := f) (g := g) hi w
      simp only [V.den] at he ⊢
      simp only [Sem.run_bind, run_eqGuard_agg w _ t x y _ _ hg, Result.andThen_ok, binOp, he, Sem.run_pure]
    · simp only [Option.some.injEq, Prod.mk.injEq, Bool.and_eq_true] at h
      obtain ⟨⟨⟨⟨hk, hn⟩, hi⟩, hg⟩, rfl⟩ := h
      have hk := eqK_eq hk; subst hk
      have hn := beqT.1 hn; subst hn
      have hg : P.eqGuardType P.depth t = false := by simpa using hg
      have he := run_equal_ints (μ := μ) (f := f) (g := g) hi w
      simp only [V.den] at he ⊢
      simp only [Sem.run_bind, run_eqGuard_agg w _ t x y _ _ hg, Result.andThen_ok, binOp, he, Sem.run_pure]
    · simp at h
  · rename_i p q
    split at h
    · simp only [Option.some.injEq, Prod.mk.injEq] at h
      obtain ⟨hu, rfl⟩ := h
      split at hu
      · rename_i hu'
        simp only [V.den, Sem.run_bind]
        rw [run_eqGuard_scalar x y (by simp) (by simp) w]
        simp only [Result.andThen_ok, binOp, Sem.run_bind, run_equal_bool hu', Sem.run_pure]
      · simp at hu
    · simp only [Option.some.injEq, Prod.mk.injEq] at h
      obtain ⟨hu, rfl⟩ := h
      split at hu
      · rename_i hu'
        simp only [V.den, Sem.run_bind]
        rw [run_eqGuard_scalar x y (by simp) (by simp) w]
        simp only [Result.andThen_ok, binOp, Sem.run_bind, run_equal_bool hu', Sem.run_pure]
      · simp at hu
    · simp at h
  · split at h
    · simp only [Option.some.injEq, Prod.mk.injEq] at h
      obtain ⟨ht, rfl⟩ := h
      split at ht
      · rename_i e hu
        simp only [V.den, Sem.run_bind, run_eqGuard_scalar x y (a := .slice _ _ _) (by simp) (by simp) w, Result.andThen_ok, binOp, run_equal_nil hu, Sem.run_pure]
        rfl
      · cases ht
    · simp only [Option.some.injEq, Prod.mk.injEq] at h
      obtain ⟨ht, rfl⟩ := h
      split at ht
      · rename_i e hu
        simp only [V.den, Sem.run_bind, run_eqGuard_scalar x y (a := .slice _ _ _) (by simp) (by simp) w, Result.andThen_ok, binOp, run_equal_nil hu, Sem.run_pure]
        rfl
      · cases ht
    · simp at h
  · split at h
    · simp only [Option.some.injEq, Prod.mk.injEq] at h
      obtain ⟨ht, rfl⟩ := h
      split at ht
      · rename_i e hu
        simp only [V.den, Sem.run_bind, run_eqGuard_scalar x y (a := .slice _ _ _) (by simp) (by simp) w, Result.andThen_ok, binOp, run_equal_nil hu, Sem.run_pure]
        rfl
      · cases ht
    · simp only [Option.some.injEq, Prod.mk.injEq] at h
      obtain ⟨ht, rfl⟩ := h
      split at ht
      · rename_i e hu
        simp only [V.den, Sem.run_bind, run_eqGuard_scalar x y (a := .slice _ _ _) (by simp) (by simp) w, Result.andThen_ok, binOp, run_equal_nil hu, Sem.run_pure]
        rfl
      · cases ht
    · simp at h
  · simp at h

theorem run_unV {op : UnOp} {a v : V} (h : unV op a = some (true, v)) (w : World) : (Op.unary op (a.den μ)).run P w = .ok (v.den μ) w := by
  unfold unV at h
  split at h
  · simp only [Option.some.injEq, Prod.mk.injEq, true_and] at h; subst h; simp [Op.unary, V.den]
  · simp only [Option.some.injEq, Prod.mk.injEq, true_and] at h; subst h; simp [Op.unary, V.den, Op.intArith, subI]
  · simp only [Option.some.injEq, Prod.mk.injEq, true_and] at h; subst h; simp [Op.unary, V.den, Op.intBits, xorI, bits2]
  · simp at h


/-! ### Composite values -/

theorem zeroInts_all {k : IntKind} : ∀ {l : List Value}, zeroInts k l = true → l = (List.range l.length).map fun _ => Value.int k 0
  | [], _ => rfl
  | v :: l, h => by
    unfold zeroInts at h
    split at h
    · rename_i heq; simp at heq
    · rename_i k' n l' heq
      simp only [List.cons.injEq] at heq
      obtain ⟨rfl, rfl⟩ := heq
      simp only [Bool.and_eq_true, beq_iff_eq] at h
      have hk := eqK_eq h.1.1; subst hk
      have hn := h.1.2; subst hn
      have ih := zeroInts_all h.2
      rw [List.length_cons, List.range_succ_eq_map, List.map_cons, List.map_map]
      rw [show ((fun _ => Value.int k 0) ∘ Nat.succ) = fun _ => Value.int k 0 from rfl, ← ih]
    · simp at h

theorem zeroBools_all : ∀ {l : List Value}, zeroBools l = true → l = (List.range l.length).map fun _ => Value.bool false
  | [], _ => rfl
  | v :: l, h => by
    unfold zeroBools at h
    split at h
    · rename_i heq; simp at heq
    · rename_i b l' heq
      simp only [List.cons.injEq] at heq
      obtain ⟨rfl, rfl⟩ := heq
      simp only [Bool.and_eq_true, Bool.not_eq_true'] at h
      have hn := h.1; subst hn
      have ih := zeroBools_all h.2
      rw [List.length_cons, List.range_succ_eq_map, List.map_cons, List.map_map]
      rw [show ((fun _ => Value.bool false) ∘ Nat.succ) = fun _ => Value.bool false from rfl, ← ih]
    · simp at h

theorem ofValues_den : ∀ {l : List Value} {xs : List V}, ofValues l = some xs → xs.map (V.den μ) = l
  | [], xs, h => by simp [ofValues] at h; subst h; rfl
  | v :: l, xs, h => by
    simp only [ofValues] at h
    split at h
    · rename_i x ys h1 h2
      simp only [Option.some.injEq] at h; subst h
      simp [ofValue_den h1, ofValues_den h2]
    · simp at h

theorem ofZero_den {v : Value} {z : V} (h : ofZero v = some z) : z.den μ = v := by
  unfold ofZero at h
  split at h
  · rename_i cs
    have many : ∀ {l : List Value} {z : V}, cs.toList = l → (ofValues l).map .agg = some z → z.den μ = .agg cs := by
      intro l z hl hz
      obtain ⟨xs, hx, rfl⟩ := Option.map_eq_some_iff.1 hz
      rw [dens_getD, ofValues_den hx, ← hl]
    split at h
    · rename_i k n l hl
      by_cases hz : zeroInts k (.int k n :: l) = true
      · rw [hz] at h
        simp only [cond_true, Option.some.injEq] at h; subst h
        have := zeroInts_all hz
        rw [← hl] at this
        have e : cs.toList.length = l.length + 1 := by rw [hl]; rfl
        rw [e] at this
        simp only [V.den]
        rw [← this]
      · rw [Bool.not_eq_true] at hz; rw [hz] at h
        exact many hl h
    · rename_i b l hl
      by_cases hz : zeroBools (.bool b :: l) = true
      · rw [hz] at h
        simp only [cond_true, Option.some.injEq] at h; subst h
        have := zeroBools_all hz
        rw [← hl] at this
        have e : cs.toList.length = l.length + 1 := by rw [hl]; rfl
        rw [e] at this
        simp only [V.den]
        rw [← this]
      · rw [Bool.not_eq_true] at hz; rw [hz] at h
        exact many hl h
    · exact many rfl h
  · exact ofValue_den h μ

theorem run_zeroV {t : TypeId} {z : V} (h : zeroV P t = some z) (w : World) : (zeroValue t).run P w = .ok (z.den μ) w := by
  unfold zeroV at h
  split at h
  · rename_i i hi
    split at h
    · rename_i v hv
      simp [zeroValue, typeInfo, hi, hv, ofZero_den h]
    · simp at h
  · simp at h

/-- 'fill' puts the value's cells where 'wr' does. -/
theorem foldl_set (off : Nat) : ∀ (vs : List Value) (cs : Array Value) (j : Nat), off + j + vs.length ≤ cs.size →
    (vs.zipIdx j).foldl (fun cs (c, j) => cs.setIfInBounds (off + j) c) cs = (cs.toList.take (off + j) ++ vs ++ cs.toList.drop (off + j + vs.length)).toArray
  | [], cs, j, _ => by simp
  | v :: vs, cs, j, h => by
    simp only [List.length_cons] at h
    simp only [List.zipIdx_cons, List.foldl_cons]
    rw [foldl_set off vs _ (j + 1) (by simp; omega)]
    congr 1
    simp only [Array.toList_setIfInBounds]
    rw [List.set_eq_take_append_cons_drop, if_pos (by simp; omega)]
    simp only [List.length_cons]
    rw [show off + (j + 1) = (off + j) + 1 by omega]
    rw [List.take_append, List.drop_append]
    simp only [List.length_take, Array.length_toList, Nat.min_eq_left (show off + j ≤ cs.size by omega)]
    rw [show off + j + 1 - (off + j) = 1 by omega, List.take_of_length_le (by simp; omega), List.take_succ_cons, List.take_zero]
    rw [List.drop_eq_nil_of_le (by simp; omega), show off + j + 1 + vs.length - (off + j) = vs.length + 1 by omega, List.drop_succ_cons, List.drop_drop]
    simp only [List.append_assoc, List.cons_append, List.nil_append]
    rw [show off + j + 1 + vs.length = off + j + (vs.length + 1) by omega]

theorem fill_lay {pl : Nat → Option (Nat × TypeId)} {place : Nat → Option (Nat × Nat)} (hp : ∀ i off e, pl i = some (off, e) → ∃ ti, P.info? e = some ti ∧ place i = some (off, ti.size)) :
    ∀ {ps : List (Nat × V)} {z c : V}, layV P pl z ps = some (true, c) → Instr.fill place (z.den μ).cells (ps.map fun p => (p.1, p.2.den μ)) = some (c.den μ).cells
  | [], z, c, h => by simp only [layV, Option.some.injEq, Prod.mk.injEq, true_and] at h; subst h; rfl
  | (i, v) :: rest, z, c, h => by
    simp only [layV] at h
    split at h
    · rename_i off e hpl
      split at h
      · rename_i k hk
        split at h
        · rename_i z' hz
          obtain ⟨ti, hti, hpl'⟩ := hp _ _ _ hpl
          obtain ⟨i', hi', hsz, _⟩ := tyk_some hk default
          rw [hti] at hi'; simp only [Option.some.injEq] at hi'; subst hi'
          obtain ⟨w1, w2, _, w4⟩ := wr_cells (μ := μ) hz
          have ih := fill_lay hp h
          simp only [List.map_cons, Instr.fill, hpl']
          rw [if_neg (by rw [w1, hsz]; simp; rw [← hsz]; omega)]
          have := foldl_set off (v.den μ).cells.toList (z.den μ).cells 0 (by simp; rw [w1]; omega)
          simp only [Nat.add_zero, Array.length_toList, w1] at this
          have e1 : (v.den μ).cells.zipIdx.foldl (fun cs (c, j) => cs.setIfInBounds (off + j) c) (z.den μ).cells = (z'.den μ).cells := by
            rw [← Array.foldl_toList, Array.toList_zipIdx, this, ← w4]
          rw [e1]; exact ih
        · simp at h
      · simp at h
    · simp at h

theorem cells_back {c : V} (h : ∃ a, c.den μ = .agg a) : Value.agg (c.den μ).cells = c.den μ := by
  obtain ⟨a, ha⟩ := h; rw [ha]; rfl

theorem wr_agg {c c' v : V} {off : Nat} {k : Option Nat} (h : wr c off k v = some (true, c')) (hc : ∃ a, c.den μ = .agg a) : ∃ a, c'.den μ = .agg a := by
  unfold wr at h
  obtain ⟨a, ha⟩ := hc
  split at h <;> (try split at h) <;> simp only [Option.some.injEq, Prod.mk.injEq, reduceCtorEq] at h <;> try (obtain ⟨_, rfl⟩ := h; exact ⟨_, by simp [V.den]; rfl⟩)
  exfalso
  simp only [Bool.and_eq_true] at h
  rename_i hA hT hV hR hI hB _ _
  cases c <;> first | (simp [V.den] at ha; done) | exact (hI _ _ _ rfl).elim | exact (hB _ _ rfl).elim | exact (hR _ _ rfl).elim | exact (hA _ rfl).elim | exact (hV _ rfl).elim

theorem lay_agg {pl : Nat → Option (Nat × TypeId)} : ∀ {ps : List (Nat × V)} {z c : V}, layV P pl z ps = some (true, c) → (∃ a, z.den μ = .agg a) → ∃ a, c.den μ = .agg a
  | [], z, c, h, hz => by simp only [layV, Option.some.injEq, Prod.mk.injEq, true_and] at h; subst h; exact hz
  | (i, v) :: rest, z, c, h, hz => by
    simp only [layV] at h
    split at h
    · split at h
      · split at h
        · rename_i hw; exact lay_agg h (wr_agg hw hz)
        · simp at h
      · simp at h
    · simp at h

end
end Go.Ev
