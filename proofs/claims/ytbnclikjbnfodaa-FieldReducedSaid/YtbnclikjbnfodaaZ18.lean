/-
  A part of the groundwork of this seat's claims: an evaluator over the program, walks, and plain mathematics. Conditions: none.
-/
import Derived.Test.YtbnclikjbnfodaaZ17
namespace Go.Proofs.Ytbnclikjbnfodaa
open Go.Ev
/- fareboxref07.D -/
noncomputable def rD : (Nat → Int) := (rFromBytesO (up 31 82 (up 30 3 (up 29 108 (up 28 238 (up 27 43 (up 26 111 (up 25 254 (up 24 115 (up 23 140 (up 22 199 (up 21 64 (up 20 121 (up 19 119 (up 18 121 (up 17 232 (up 16 152 (up 15 0 (up 14 112 (up 13 10 (up 12 77 (up 11 65 (up 10 65 (up 9 216 (up 8 171 (up 7 117 (up 6 235 (up 5 77 (up 4 202 (up 3 19 (up 2 89 (up 1 120 (up 0 163 (fun _ => 0))))))))))))))))))))))))))))))))))
theorem rD_t : awp Try.prog o62O noG 300 (body Try.f120) (ends Try.prog Try.f120 fun v _ => okV (V.ints .u64 10 rD) v) ⟨[] ++ List.replicate 3 V.un, []⟩ = ((V.ints .u64 10 rD).den z0 = (V.ints .u64 10 rD).den z0) := by kernel_rfl
theorem rD_a : awp Try.prog o62O noG 300 (body Try.f120) (ends Try.prog Try.f120 fun v _ => okV (V.ints .u64 10 rD) v) ⟨[] ++ List.replicate 3 V.un, []⟩ := by rw [rD_t]
noncomputable def g120 : List V → Option (Bool × V) := fun | [] => some (true, (V.ints .u64 10 rD)) | _ => none
theorem rD_p : (∀ μ μ', V.den μ' (V.ints .u64 10 rD) = V.den μ (V.ints .u64 10 rD)) ∧ ∀ μ w, PureAt Try.prog 120 (([] : List V).map (V.den μ)).toArray (V.den μ (V.ints .u64 10 rD)) w :=
  pure_ok (F := o62O) (N := 300) (fn := Try.f120) (args := []) (r := (V.ints .u64 10 rD)) (n := 3) hM o62O_ok (noG_ok _) Try.func120 (by kernel_rfl) (by kernel_rfl) (by kernel_rfl) (by kernel_rfl) (rD_a) (by kernel_rfl)
theorem g120_ok (vs : List V) (v : V) (h : g120 vs = some (true, v)) : (∀ μ μ', v.den μ' = v.den μ) ∧ ∀ μ w, PureAt Try.prog 120 (vs.map (V.den μ)).toArray (v.den μ) w := by
  unfold g120 at h
  split at h
  · simp only [Option.some.injEq, Prod.mk.injEq, true_and] at h
    subst h
    exact rD_p
  · simp at h
noncomputable def o120 : Orc := ext 120 g120 o62O
theorem o120_ok : OrcOK Try.prog o120 := ext_ok o62O_ok g120_ok

theorem rDO_ex : ∃ f : (Nat → Int), f = rD := ⟨_, rfl⟩
/-- rD, by a name that is not unfolded. -/
noncomputable def rDO : (Nat → Int) := Classical.choose rDO_ex
theorem rDO_eq : rDO = rD := Classical.choose_spec rDO_ex
noncomputable def g120O : List V → Option (Bool × V) := fun | [] => some (true, (V.ints .u64 10 rDO)) | _ => none
theorem g120O_ok (vs : List V) (v : V) (h : g120O vs = some (true, v)) : (∀ μ μ', v.den μ' = v.den μ) ∧ ∀ μ w, PureAt Try.prog 120 (vs.map (V.den μ)).toArray (v.den μ) w := by
  unfold g120O at h
  split at h
  · simp only [Option.some.injEq, Prod.mk.injEq, true_and] at h
    subst h
    rw [rDO_eq]
    exact rD_p
  · simp at h
noncomputable def o120O : Orc := ext 120 g120O o120
theorem o120O_ok : OrcOK Try.prog o120O := ext_ok o120_ok g120O_ok

/- fareboxref07.across -/
noncomputable def rAcross (y : (Nat → Int)) : ((Nat → Int) × Bool) := ((rSqrtO (rSubO (rMulO y y) (rSmallO 1)) (rAddO (rMulO rDO (rMulO y y)) (rSmallO 1))).1, (rSqrtO (rSubO (rMulO y y) (rSmallO 1)) (rAddO (rMulO rDO (rMulO y y)) (rSmallO 1))).2)
theorem rAcross_t (y : (Nat → Int)) : awp Try.prog o120O noG 300 (body Try.f95) (ends Try.prog Try.f95 fun v _ => okV (V.tup [(V.ints .u64 10 (rAcross y).1), (V.bool (rAcross y).2)]) v) ⟨[(V.ints .u64 10 y)] ++ List.replicate 22 V.un, []⟩ = ((V.tup [(V.ints .u64 10 (rAcross y).1), (V.bool (rAcross y).2)]).den z0 = (V.tup [(V.ints .u64 10 (rAcross y).1), (V.bool (rAcross y).2)]).den z0) := by kernel_rfl
theorem rAcross_a (y : (Nat → Int)) : awp Try.prog o120O noG 300 (body Try.f95) (ends Try.prog Try.f95 fun v _ => okV (V.tup [(V.ints .u64 10 (rAcross y).1), (V.bool (rAcross y).2)]) v) ⟨[(V.ints .u64 10 y)] ++ List.replicate 22 V.un, []⟩ := by rw [rAcross_t]
noncomputable def g95 : List V → Option (Bool × V) := fun | [.ints .u64 10 y] => some (true, (V.tup [(V.ints .u64 10 (rAcross y).1), (V.bool (rAcross y).2)])) | _ => none
theorem rAcross_p (y : (Nat → Int)) : (∀ μ μ', V.den μ' (V.tup [(V.ints .u64 10 (rAcross y).1), (V.bool (rAcross y).2)]) = V.den μ (V.tup [(V.ints .u64 10 (rAcross y).1), (V.bool (rAcross y).2)])) ∧ ∀ μ w, PureAt Try.prog 95 (([(V.ints .u64 10 y)] : List V).map (V.den μ)).toArray (V.den μ (V.tup [(V.ints .u64 10 (rAcross y).1), (V.bool (rAcross y).2)])) w :=
  pure_ok (F := o120O) (N := 300) (fn := Try.f95) (args := [(V.ints .u64 10 y)]) (r := (V.tup [(V.ints .u64 10 (rAcross y).1), (V.bool (rAcross y).2)])) (n := 22) hM o120O_ok (noG_ok _) Try.func95 (by kernel_rfl) (by kernel_rfl) (by kernel_rfl) (by kernel_rfl) (rAcross_a y) (by kernel_rfl)
theorem g95_ok (vs : List V) (v : V) (h : g95 vs = some (true, v)) : (∀ μ μ', v.den μ' = v.den μ) ∧ ∀ μ w, PureAt Try.prog 95 (vs.map (V.den μ)).toArray (v.den μ) w := by
  unfold g95 at h
  split at h
  · simp only [Option.some.injEq, Prod.mk.injEq, true_and] at h
    subst h
    exact rAcross_p _
  · simp at h
noncomputable def o95 : Orc := ext 95 g95 o120O
theorem o95_ok : OrcOK Try.prog o95 := ext_ok o120O_ok g95_ok

theorem rAcrossO_ex : ∃ f : (Nat → Int) → ((Nat → Int) × Bool), f = rAcross := ⟨_, rfl⟩
/-- rAcross, by a name that is not unfolded. -/
noncomputable def rAcrossO : (Nat → Int) → ((Nat → Int) × Bool) := Classical.choose rAcrossO_ex
theorem rAcrossO_eq : rAcrossO = rAcross := Classical.choose_spec rAcrossO_ex
noncomputable def g95O : List V → Option (Bool × V) := fun | [.ints .u64 10 y] => some (true, (V.tup [(V.ints .u64 10 (rAcrossO y).1), (V.bool (rAcrossO y).2)])) | _ => none
theorem g95O_ok (vs : List V) (v : V) (h : g95O vs = some (true, v)) : (∀ μ μ', v.den μ' = v.den μ) ∧ ∀ μ w, PureAt Try.prog 95 (vs.map (V.den μ)).toArray (v.den μ) w := by
  unfold g95O at h
  split at h
  · simp only [Option.some.injEq, Prod.mk.injEq, true_and] at h
    subst h
    rw [rAcrossO_eq]
    exact rAcross_p _
  · simp at h
noncomputable def o95O : Orc := ext 95 g95O o95
theorem o95O_ok : OrcOK Try.prog o95O := ext_ok o95_ok g95O_ok

/- fareboxref07.affine -/
noncomputable def rAffine (x : (Nat → Int)) (y : (Nat → Int)) : (Nat → Int) := (L [(x 0), (x 1), (x 2), (x 3), (x 4), (x 5), (x 6), (x 7), (x 8), (x 9), (y 0), (y 1), (y 2), (y 3), (y 4), (y 5), (y 6), (y 7), (y 8), (y 9), ((rSmallO 1) 0), ((rSmallO 1) 1), ((rSmallO 1) 2), ((rSmallO 1) 3), ((rSmallO 1) 4), ((rSmallO 1) 5), ((rSmallO 1) 6), ((rSmallO 1) 7), ((rSmallO 1) 8), ((rSmallO 1) 9)])
theorem rAffine_t (x : (Nat → Int)) (y : (Nat → Int)) : awp Try.prog o95O noG 300 (body Try.f96) (ends Try.prog Try.f96 fun v _ => okV (V.ints .u64 30 (rAffine x y)) v) ⟨[(V.ints .u64 10 x), (V.ints .u64 10 y)] ++ List.replicate 7 V.un, []⟩ = ((V.ints .u64 30 (rAffine x y)).den z0 = (V.ints .u64 30 (rAffine x y)).den z0) := by kernel_rfl
theorem rAffine_a (x : (Nat → Int)) (y : (Nat → Int)) : awp Try.prog o95O noG 300 (body Try.f96) (ends Try.prog Try.f96 fun v _ => okV (V.ints .u64 30 (rAffine x y)) v) ⟨[(V.ints .u64 10 x), (V.ints .u64 10 y)] ++ List.replicate 7 V.un, []⟩ := by rw [rAffine_t]
noncomputable def g96 : List V → Option (Bool × V) := fun | [.ints .u64 10 x, .ints .u64 10 y] => some (true, (V.ints .u64 30 (rAffine x y))) | _ => none
theorem rAffine_p (x : (Nat → Int)) (y : (Nat → Int)) : (∀ μ μ', V.den μ' (V.ints .u64 30 (rAffine x y)) = V.den μ (V.ints .u64 30 (rAffine x y))) ∧ ∀ μ w, PureAt Try.prog 96 (([(V.ints .u64 10 x), (V.ints .u64 10 y)] : List V).map (V.den μ)).toArray (V.den μ (V.ints .u64 30 (rAffine x y))) w :=
  pure_ok (F := o95O) (N := 300) (fn := Try.f96) (args := [(V.ints .u64 10 x), (V.ints .u64 10 y)]) (r := (V.ints .u64 30 (rAffine x y))) (n := 7) hM o95O_ok (noG_ok _) Try.func96 (by kernel_rfl) (by kernel_rfl) (by kernel_rfl) (by kernel_rfl) (rAffine_a x y) (by kernel_rfl)
theorem g96_ok (vs : List V) (v : V) (h : g96 vs = some (true, v)) : (∀ μ μ', v.den μ' = v.den μ) ∧ ∀ μ w, PureAt Try.prog 96 (vs.map (V.den μ)).toArray (v.den μ) w := by
  unfold g96 at h
  split at h
  · simp only [Option.some.injEq, Prod.mk.injEq, true_and] at h
    subst h
    exact rAffine_p _ _
  · simp at h
noncomputable def o96 : Orc := ext 96 g96 o95O
theorem o96_ok : OrcOK Try.prog o96 := ext_ok o95O_ok g96_ok

theorem rAffineO_ex : ∃ f : (Nat → Int) → (Nat → Int) → (Nat → Int), f = rAffine := ⟨_, rfl⟩
/-- rAffine, by a name that is not unfolded. -/
noncomputable def rAffineO : (Nat → Int) → (Nat → Int) → (Nat → Int) := Classical.choose rAffineO_ex
theorem rAffineO_eq : rAffineO = rAffine := Classical.choose_spec rAffineO_ex
noncomputable def g96O : List V → Option (Bool × V) := fun | [.ints .u64 10 x, .ints .u64 10 y] => some (true, (V.ints .u64 30 (rAffineO x y))) | _ => none
theorem g96O_ok (vs : List V) (v : V) (h : g96O vs = some (true, v)) : (∀ μ μ', v.den μ' = v.den μ) ∧ ∀ μ w, PureAt Try.prog 96 (vs.map (V.den μ)).toArray (v.den μ) w := by
  unfold g96O at h
  split at h
  · simp only [Option.some.injEq, Prod.mk.injEq, true_and] at h
    subst h
    rw [rAffineO_eq]
    exact rAffine_p _ _
  · simp at h
noncomputable def o96O : Orc := ext 96 g96O o96
theorem o96O_ok : OrcOK Try.prog o96O := ext_ok o96_ok g96O_ok

/- fareboxref07.OnCurve -/
noncomputable def rOnP (q : (Nat → Int)) : Bool := (cond (rIsZeroO (rOfO (sh 10 q))) false (cond (!(eqN 10 (rMulO (rOfO (sh 0 q)) (rOfO (sh 5 q))) (rMulO (rOfO (sh 10 q)) (rOfO (sh 15 q))))) false (eqN 10 (rSubO (rMulO (rOfO (sh 5 q)) (rOfO (sh 5 q))) (rMulO (rOfO (sh 0 q)) (rOfO (sh 0 q)))) (rAddO (rMulO (rOfO (sh 10 q)) (rOfO (sh 10 q))) (rMulO rDO (rMulO (rOfO (sh 15 q)) (rOfO (sh 15 q))))))))
theorem rOnP_t (q : (Nat → Int)) : awp Try.prog o96O noG 300 (body Try.f97) (ends Try.prog Try.f97 fun v _ => okV (V.bool (rOnP q)) v) ⟨[(V.ints .u64 20 q)] ++ List.replicate 50 V.un, []⟩ = (mB (rIsZeroO (rOfO (sh 10 q))) ((V.bool false).den z0 = (V.bool (rOnP q)).den z0) (mB (!(eqN 10 (rMulO (rOfO (sh 0 q)) (rOfO (sh 5 q))) (rMulO (rOfO (sh 10 q)) (rOfO (sh 15 q))))) ((V.bool false).den z0 = (V.bool (rOnP q)).den z0) ((V.bool (eqN 10 (rSubO (rMulO (rOfO (sh 5 q)) (rOfO (sh 5 q))) (rMulO (rOfO (sh 0 q)) (rOfO (sh 0 q)))) (rAddO (rMulO (rOfO (sh 10 q)) (rOfO (sh 10 q))) (rMulO rDO (rMulO (rOfO (sh 15 q)) (rOfO (sh 15 q))))))).den z0 = (V.bool (rOnP q)).den z0))) := by kernel_rfl
theorem rOnP_a (q : (Nat → Int)) : awp Try.prog o96O noG 300 (body Try.f97) (ends Try.prog Try.f97 fun v _ => okV (V.bool (rOnP q)) v) ⟨[(V.ints .u64 20 q)] ++ List.replicate 50 V.un, []⟩ := by
  rw [rOnP_t]
  refine mBt (fun h1 => ?_) (fun h1 => ?_)
  · simp only [rOnP, h1, cond_true]
  · refine mBt (fun h2 => ?_) (fun h2 => ?_)
    · simp only [rOnP, h1, h2, cond_true, cond_false]
    · simp only [rOnP, h1, h2, cond_false]
noncomputable def g97 : List V → Option (Bool × V) := fun | [.ints .u64 20 q] => some (true, (V.bool (rOnP q))) | _ => none
theorem rOnP_p (q : (Nat → Int)) : (∀ μ μ', V.den μ' (V.bool (rOnP q)) = V.den μ (V.bool (rOnP q))) ∧ ∀ μ w, PureAt Try.prog 97 (([(V.ints .u64 20 q)] : List V).map (V.den μ)).toArray (V.den μ (V.bool (rOnP q))) w :=
  pure_ok (F := o96O) (N := 300) (fn := Try.f97) (args := [(V.ints .u64 20 q)]) (r := (V.bool (rOnP q))) (n := 50) hM o96O_ok (noG_ok _) Try.func97 (by kernel_rfl) (by kernel_rfl) (by kernel_rfl) (by kernel_rfl) (rOnP_a q) (by kernel_rfl)
theorem g97_ok (vs : List V) (v : V) (h : g97 vs = some (true, v)) : (∀ μ μ', v.den μ' = v.den μ) ∧ ∀ μ w, PureAt Try.prog 97 (vs.map (V.den μ)).toArray (v.den μ) w := by
  unfold g97 at h
  split at h
  · simp only [Option.some.injEq, Prod.mk.injEq, true_and] at h
    subst h
    exact rOnP_p _
  · simp at h
noncomputable def o97 : Orc := ext 97 g97 o96O
theorem o97_ok : OrcOK Try.prog o97 := ext_ok o96O_ok g97_ok

theorem rOnPO_ex : ∃ f : (Nat → Int) → Bool, f = rOnP := ⟨_, rfl⟩
/-- rOnP, by a name that is not unfolded. -/
noncomputable def rOnPO : (Nat → Int) → Bool := Classical.choose rOnPO_ex
theorem rOnPO_eq : rOnPO = rOnP := Classical.choose_spec rOnPO_ex
noncomputable def g97O : List V → Option (Bool × V) := fun | [.ints .u64 20 q] => some (true, (V.bool (rOnPO q))) | _ => none
theorem g97O_ok (vs : List V) (v : V) (h : g97O vs = some (true, v)) : (∀ μ μ', v.den μ' = v.den μ) ∧ ∀ μ w, PureAt Try.prog 97 (vs.map (V.den μ)).toArray (v.den μ) w := by
  unfold g97O at h
  split at h
  · simp only [Option.some.injEq, Prod.mk.injEq, true_and] at h
    subst h
    rw [rOnPO_eq]
    exact rOnP_p _
  · simp at h
noncomputable def o97O : Orc := ext 97 g97O o97
theorem o97O_ok : OrcOK Try.prog o97O := ext_ok o97_ok g97O_ok

/- fareboxref07.Of -/
noncomputable def rOfP (q : (Nat → Int)) : (Nat → Int) := (L [((rOfO (sh 0 q)) 0), ((rOfO (sh 0 q)) 1), ((rOfO (sh 0 q)) 2), ((rOfO (sh 0 q)) 3), ((rOfO (sh 0 q)) 4), ((rOfO (sh 0 q)) 5), ((rOfO (sh 0 q)) 6), ((rOfO (sh 0 q)) 7), ((rOfO (sh 0 q)) 8), ((rOfO (sh 0 q)) 9), ((rOfO (sh 5 q)) 0), ((rOfO (sh 5 q)) 1), ((rOfO (sh 5 q)) 2), ((rOfO (sh 5 q)) 3), ((rOfO (sh 5 q)) 4), ((rOfO (sh 5 q)) 5), ((rOfO (sh 5 q)) 6), ((rOfO (sh 5 q)) 7), ((rOfO (sh 5 q)) 8), ((rOfO (sh 5 q)) 9), ((rOfO (sh 10 q)) 0), ((rOfO (sh 10 q)) 1), ((rOfO (sh 10 q)) 2), ((rOfO (sh 10 q)) 3), ((rOfO (sh 10 q)) 4), ((rOfO (sh 10 q)) 5), ((rOfO (sh 10 q)) 6), ((rOfO (sh 10 q)) 7), ((rOfO (sh 10 q)) 8), ((rOfO (sh 10 q)) 9)])
theorem rOfP_t (q : (Nat → Int)) : awp Try.prog o97O noG 300 (body Try.f99) (ends Try.prog Try.f99 fun v _ => okV (V.ints .u64 30 (rOfP q)) v) ⟨[(V.ints .u64 20 q)] ++ List.replicate 12 V.un, []⟩ = ((V.ints .u64 30 (rOfP q)).den z0 = (V.ints .u64 30 (rOfP q)).den z0) := by kernel_rfl
theorem rOfP_a (q : (Nat → Int)) : awp Try.prog o97O noG 300 (body Try.f99) (ends Try.prog Try.f99 fun v _ => okV (V.ints .u64 30 (rOfP q)) v) ⟨[(V.ints .u64 20 q)] ++ List.replicate 12 V.un, []⟩ := by rw [rOfP_t]
noncomputable def g99 : List V → Option (Bool × V) := fun | [.ints .u64 20 q] => some (true, (V.ints .u64 30 (rOfP q))) | _ => none
theorem rOfP_p (q : (Nat → Int)) : (∀ μ μ', V.den μ' (V.ints .u64 30 (rOfP q)) = V.den μ (V.ints .u64 30 (rOfP q))) ∧ ∀ μ w, PureAt Try.prog 99 (([(V.ints .u64 20 q)] : List V).map (V.den μ)).toArray (V.den μ (V.ints .u64 30 (rOfP q))) w :=
  pure_ok (F := o97O) (N := 300) (fn := Try.f99) (args := [(V.ints .u64 20 q)]) (r := (V.ints .u64 30 (rOfP q))) (n := 12) hM o97O_ok (noG_ok _) Try.func99 (by kernel_rfl) (by kernel_rfl) (by kernel_rfl) (by kernel_rfl) (rOfP_a q) (by kernel_rfl)
theorem g99_ok (vs : List V) (v : V) (h : g99 vs = some (true, v)) : (∀ μ μ', v.den μ' = v.den μ) ∧ ∀ μ w, PureAt Try.prog 99 (vs.map (V.den μ)).toArray (v.den μ) w := by
  unfold g99 at h
  split at h
  · simp only [Option.some.injEq, Prod.mk.injEq, true_and] at h
    subst h
    exact rOfP_p _
  · simp at h
noncomputable def o99 : Orc := ext 99 g99 o97O
theorem o99_ok : OrcOK Try.prog o99 := ext_ok o97O_ok g99_ok

theorem rOfPO_ex : ∃ f : (Nat → Int) → (Nat → Int), f = rOfP := ⟨_, rfl⟩
/-- rOfP, by a name that is not unfolded. -/
noncomputable def rOfPO : (Nat → Int) → (Nat → Int) := Classical.choose rOfPO_ex
theorem rOfPO_eq : rOfPO = rOfP := Classical.choose_spec rOfPO_ex
noncomputable def g99O : List V → Option (Bool × V) := fun | [.ints .u64 20 q] => some (true, (V.ints .u64 30 (rOfPO q))) | _ => none
theorem g99O_ok (vs : List V) (v : V) (h : g99O vs = some (true, v)) : (∀ μ μ', v.den μ' = v.den μ) ∧ ∀ μ w, PureAt Try.prog 99 (vs.map (V.den μ)).toArray (v.den μ) w := by
  unfold g99O at h
  split at h
  · simp only [Option.some.injEq, Prod.mk.injEq, true_and] at h
    subst h
    rw [rOfPO_eq]
    exact rOfP_p _
  · simp at h
noncomputable def o99O : Orc := ext 99 g99O o99
theorem o99O_ok : OrcOK Try.prog o99O := ext_ok o99_ok g99O_ok

/- fareboxref07.Equal -/
noncomputable def rEqualP (a : (Nat → Int)) (b : (Nat → Int)) : Bool := (cond (eqN 10 (rMulO (sh 0 a) (sh 20 b)) (rMulO (sh 0 b) (sh 20 a))) (eqN 10 (rMulO (sh 10 a) (sh 20 b)) (rMulO (sh 10 b) (sh 20 a))) false)
theorem rEqualP_t (a : (Nat → Int)) (b : (Nat → Int)) : awp Try.prog o99O noG 300 (body Try.f98) (ends Try.prog Try.f98 fun v _ => okV (V.bool (rEqualP a b)) v) ⟨[(V.ints .u64 30 a), (V.ints .u64 30 b)] ++ List.replicate 29 V.un, []⟩ = (mB (eqN 10 (rMulO (sh 0 a) (sh 20 b)) (rMulO (sh 0 b) (sh 20 a))) ((V.bool (eqN 10 (rMulO (sh 10 a) (sh 20 b)) (rMulO (sh 10 b) (sh 20 a)))).den z0 = (V.bool (rEqualP a b)).den z0) ((V.bool false).den z0 = (V.bool (rEqualP a b)).den z0)) := by kernel_rfl
theorem rEqualP_a (a : (Nat → Int)) (b : (Nat → Int)) : awp Try.prog o99O noG 300 (body Try.f98) (ends Try.prog Try.f98 fun v _ => okV (V.bool (rEqualP a b)) v) ⟨[(V.ints .u64 30 a), (V.ints .u64 30 b)] ++ List.replicate 29 V.un, []⟩ := by
  rw [rEqualP_t]
  refine mBt (fun h1 => ?_) (fun h1 => ?_)
  · simp only [rEqualP, h1, cond_true]
  · simp only [rEqualP, h1, cond_false]
noncomputable def g98 : List V → Option (Bool × V) := fun | [.ints .u64 30 a, .ints .u64 30 b] => some (true, (V.bool (rEqualP a b))) | _ => none
theorem rEqualP_p (a : (Nat → Int)) (b : (Nat → Int)) : (∀ μ μ', V.den μ' (V.bool (rEqualP a b)) = V.den μ (V.bool (rEqualP a b))) ∧ ∀ μ w, PureAt Try.prog 98 (([(V.ints .u64 30 a), (V.ints .u64 30 b)] : List V).map (V.den μ)).toArray (V.den μ (V.bool (rEqualP a b))) w :=
  pure_ok (F := o99O) (N := 300) (fn := Try.f98) (args := [(V.ints .u64 30 a), (V.ints .u64 30 b)]) (r := (V.bool (rEqualP a b))) (n := 29) hM o99O_ok (noG_ok _) Try.func98 (by kernel_rfl) (by kernel_rfl) (by kernel_rfl) (by kernel_rfl) (rEqualP_a a b) (by kernel_rfl)
theorem g98_ok (vs : List V) (v : V) (h : g98 vs = some (true, v)) : (∀ μ μ', v.den μ' = v.den μ) ∧ ∀ μ w, PureAt Try.prog 98 (vs.map (V.den μ)).toArray (v.den μ) w := by
  unfold g98 at h
  split at h
  · simp only [Option.some.injEq, Prod.mk.injEq, true_and] at h
    subst h
    exact rEqualP_p _ _
  · simp at h
noncomputable def o98 : Orc := ext 98 g98 o99O
theorem o98_ok : OrcOK Try.prog o98 := ext_ok o99O_ok g98_ok

theorem rEqualPO_ex : ∃ f : (Nat → Int) → (Nat → Int) → Bool, f = rEqualP := ⟨_, rfl⟩
/-- rEqualP, by a name that is not unfolded. -/
noncomputable def rEqualPO : (Nat → Int) → (Nat → Int) → Bool := Classical.choose rEqualPO_ex
theorem rEqualPO_eq : rEqualPO = rEqualP := Classical.choose_spec rEqualPO_ex
noncomputable def g98O : List V → Option (Bool × V) := fun | [.ints .u64 30 a, .ints .u64 30 b] => some (true, (V.bool (rEqualPO a b))) | _ => none
theorem g98O_ok (vs : List V) (v : V) (h : g98O vs = some (true, v)) : (∀ μ μ', v.den μ' = v.den μ) ∧ ∀ μ w, PureAt Try.prog 98 (vs.map (V.den μ)).toArray (v.den μ) w := by
  unfold g98O at h
  split at h
  · simp only [Option.some.injEq, Prod.mk.injEq, true_and] at h
    subst h
    rw [rEqualPO_eq]
    exact rEqualP_p _ _
  · simp at h
noncomputable def o98O : Orc := ext 98 g98O o98
theorem o98O_ok : OrcOK Try.prog o98O := ext_ok o98_ok g98O_ok

/- fareboxref07.Is -/
noncomputable def isP (q : (Nat → Int)) (a : (Nat → Int)) : Bool := (cond (rOnPO q) (rEqualPO (rOfPO q) a) false)
theorem isP_t (q : (Nat → Int)) (a : (Nat → Int)) : awp Try.prog o98O noG 300 (body Try.f57) (ends Try.prog Try.f57 fun v _ => okV (V.bool (isP q a)) v) ⟨[(V.ints .u64 20 q), (V.ints .u64 30 a)] ++ List.replicate 11 V.un, []⟩ = (mB (rOnPO q) ((V.bool (rEqualPO (rOfPO q) a)).den z0 = (V.bool (isP q a)).den z0) ((V.bool false).den z0 = (V.bool (isP q a)).den z0)) := by kernel_rfl
theorem isP_a (q : (Nat → Int)) (a : (Nat → Int)) : awp Try.prog o98O noG 300 (body Try.f57) (ends Try.prog Try.f57 fun v _ => okV (V.bool (isP q a)) v) ⟨[(V.ints .u64 20 q), (V.ints .u64 30 a)] ++ List.replicate 11 V.un, []⟩ := by
  rw [isP_t]
  refine mBt (fun h1 => ?_) (fun h1 => ?_)
  · simp only [isP, h1, cond_true]
  · simp only [isP, h1, cond_false]
noncomputable def g57 : List V → Option (Bool × V) := fun | [.ints .u64 20 q, .ints .u64 30 a] => some (true, (V.bool (isP q a))) | _ => none
theorem isP_p (q : (Nat → Int)) (a : (Nat → Int)) : (∀ μ μ', V.den μ' (V.bool (isP q a)) = V.den μ (V.bool (isP q a))) ∧ ∀ μ w, PureAt Try.prog 57 (([(V.ints .u64 20 q), (V.ints .u64 30 a)] : List V).map (V.den μ)).toArray (V.den μ (V.bool (isP q a))) w :=
  pure_ok (F := o98O) (N := 300) (fn := Try.f57) (args := [(V.ints .u64 20 q), (V.ints .u64 30 a)]) (r := (V.bool (isP q a))) (n := 11) hM o98O_ok (noG_ok _) Try.func57 (by kernel_rfl) (by kernel_rfl) (by kernel_rfl) (by kernel_rfl) (isP_a q a) (by kernel_rfl)
theorem g57_ok (vs : List V) (v : V) (h : g57 vs = some (true, v)) : (∀ μ μ', v.den μ' = v.den μ) ∧ ∀ μ w, PureAt Try.prog 57 (vs.map (V.den μ)).toArray (v.den μ) w := by
  unfold g57 at h
  split at h
  · simp only [Option.some.injEq, Prod.mk.injEq, true_and] at h
    subst h
    exact isP_p _ _
  · simp at h
noncomputable def o57 : Orc := ext 57 g57 o98O
theorem o57_ok : OrcOK Try.prog o57 := ext_ok o98O_ok g57_ok

theorem isPO_ex : ∃ f : (Nat → Int) → (Nat → Int) → Bool, f = isP := ⟨_, rfl⟩
/-- isP, by a name that is not unfolded. -/
noncomputable def isPO : (Nat → Int) → (Nat → Int) → Bool := Classical.choose isPO_ex
theorem isPO_eq : isPO = isP := Classical.choose_spec isPO_ex
noncomputable def g57O : List V → Option (Bool × V) := fun | [.ints .u64 20 q, .ints .u64 30 a] => some (true, (V.bool (isPO q a))) | _ => none
theorem g57O_ok (vs : List V) (v : V) (h : g57O vs = some (true, v)) : (∀ μ μ', v.den μ' = v.den μ) ∧ ∀ μ w, PureAt Try.prog 57 (vs.map (V.den μ)).toArray (v.den μ) w := by
  unfold g57O at h
  split at h
  · simp only [Option.some.injEq, Prod.mk.injEq, true_and] at h
    subst h
    rw [isPO_eq]
    exact isP_p _ _
  · simp at h
noncomputable def o57O : Orc := ext 57 g57O o57
theorem o57O_ok : OrcOK Try.prog o57O := ext_ok o57_ok g57O_ok

/- fareboxref07.Decode -/
noncomputable def rDecodeP (b : (Nat → Int)) : ((Nat → Int) × Bool) := (cond (!(rCanonicalO (up 31 (remI (b 31) 128) b))) ((fun _ => 0), false) (cond (!(rAcrossO (rFromBytesO (up 31 (remI (b 31) 128) b))).2) ((fun _ => 0), false) (cond (decide ((b 31) ≥ 128)) (cond (rIsZeroO (rAcrossO (rFromBytesO (up 31 (remI (b 31) 128) b))).1) ((fun _ => 0), false) (cond (decide ((b 31) ≥ 128)) ((rAffineO (rNegO (rAcrossO (rFromBytesO (up 31 (remI (b 31) 128) b))).1) (rFromBytesO (up 31 (remI (b 31) 128) b))), true) ((rAffineO (rAcrossO (rFromBytesO (up 31 (remI (b 31) 128) b))).1 (rFromBytesO (up 31 (remI (b 31) 128) b))), true))) (cond (decide ((b 31) ≥ 128)) ((rAffineO (rNegO (rAcrossO (rFromBytesO (up 31 (remI (b 31) 128) b))).1) (rFromBytesO (up 31 (remI (b 31) 128) b))), true) ((rAffineO (rAcrossO (rFromBytesO (up 31 (remI (b 31) 128) b))).1 (rFromBytesO (up 31 (remI (b 31) 128) b))), true)))))
theorem rDecodeP_t (b : (Nat → Int)) : awp Try.prog o57O noG 300 (body Try.f56) (ends Try.prog Try.f56 fun v _ => okV (V.tup [(V.ints .u64 30 (rDecodeP b).1), (V.bool (rDecodeP b).2)]) v) ⟨[(V.ints .u8 32 b)] ++ List.replicate 41 V.un, []⟩ = (mB (!(rCanonicalO (up 31 (remI (b 31) 128) b))) ((V.tup [(V.ints .u64 30 (fun _ => 0)), (V.bool false)]).den z0 = (V.tup [(V.ints .u64 30 (rDecodeP b).1), (V.bool (rDecodeP b).2)]).den z0) (mB (!(rAcrossO (rFromBytesO (up 31 (remI (b 31) 128) b))).2) ((V.tup [(V.ints .u64 30 (fun _ => 0)), (V.bool false)]).den z0 = (V.tup [(V.ints .u64 30 (rDecodeP b).1), (V.bool (rDecodeP b).2)]).den z0) (mB (decide ((b 31) ≥ 128)) (mB (rIsZeroO (rAcrossO (rFromBytesO (up 31 (remI (b 31) 128) b))).1) ((V.tup [(V.ints .u64 30 (fun _ => 0)), (V.bool false)]).den z0 = (V.tup [(V.ints .u64 30 (rDecodeP b).1), (V.bool (rDecodeP b).2)]).den z0) (mB (decide ((b 31) ≥ 128)) ((V.tup [(V.ints .u64 30 (rAffineO (rNegO (rAcrossO (rFromBytesO (up 31 (remI (b 31) 128) b))).1) (rFromBytesO (up 31 (remI (b 31) 128) b)))), (V.bool true)]).den z0 = (V.tup [(V.ints .u64 30 (rDecodeP b).1), (V.bool (rDecodeP b).2)]).den z0) ((V.tup [(V.ints .u64 30 (rAffineO (rAcrossO (rFromBytesO (up 31 (remI (b 31) 128) b))).1 (rFromBytesO (up 31 (remI (b 31) 128) b)))), (V.bool true)]).den z0 = (V.tup [(V.ints .u64 30 (rDecodeP b).1), (V.bool (rDecodeP b).2)]).den z0))) (mB (decide ((b 31) ≥ 128)) ((V.tup [(V.ints .u64 30 (rAffineO (rNegO (rAcrossO (rFromBytesO (up 31 (remI (b 31) 128) b))).1) (rFromBytesO (up 31 (remI (b 31) 128) b)))), (V.bool true)]).den z0 = (V.tup [(V.ints .u64 30 (rDecodeP b).1), (V.bool (rDecodeP b).2)]).den z0) ((V.tup [(V.ints .u64 30 (rAffineO (rAcrossO (rFromBytesO (up 31 (remI (b 31) 128) b))).1 (rFromBytesO (up 31 (remI (b 31) 128) b)))), (V.bool true)]).den z0 = (V.tup [(V.ints .u64 30 (rDecodeP b).1), (V.bool (rDecodeP b).2)]).den z0))))) := by kernel_rfl
theorem rDecodeP_a (b : (Nat → Int)) : awp Try.prog o57O noG 300 (body Try.f56) (ends Try.prog Try.f56 fun v _ => okV (V.tup [(V.ints .u64 30 (rDecodeP b).1), (V.bool (rDecodeP b).2)]) v) ⟨[(V.ints .u8 32 b)] ++ List.replicate 41 V.un, []⟩ := by
  rw [rDecodeP_t]
  refine mBt (fun h1 => ?_) (fun h1 => ?_)
  · simp only [rDecodeP, h1, cond_true]
  · refine mBt (fun h2 => ?_) (fun h2 => ?_)
    · simp only [rDecodeP, h1, h2, cond_true, cond_false]
    · refine mBt (fun h3 => ?_) (fun h3 => ?_)
      · refine mBt (fun h4 => ?_) (fun h4 => ?_)
        · simp only [rDecodeP, h1, h2, h3, h4, cond_true, cond_false]
        · refine mBt (fun h5 => ?_) (fun h5 => ?_)
          · simp only [rDecodeP, h1, h2, h3, h4, cond_true, cond_false]
          · simp [h3] at h5
      · refine mBt (fun h4 => ?_) (fun h4 => ?_)
        · simp [h3] at h4
        · simp only [rDecodeP, h1, h2, h3, cond_false]
noncomputable def g56 : List V → Option (Bool × V) := fun | [.ints .u8 32 b] => some (true, (V.tup [(V.ints .u64 30 (rDecodeP b).1), (V.bool (rDecodeP b).2)])) | _ => none
theorem rDecodeP_p (b : (Nat → Int)) : (∀ μ μ', V.den μ' (V.tup [(V.ints .u64 30 (rDecodeP b).1), (V.bool (rDecodeP b).2)]) = V.den μ (V.tup [(V.ints .u64 30 (rDecodeP b).1), (V.bool (rDecodeP b).2)])) ∧ ∀ μ w, PureAt Try.prog 56 (([(V.ints .u8 32 b)] : List V).map (V.den μ)).toArray (V.den μ (V.tup [(V.ints .u64 30 (rDecodeP b).1), (V.bool (rDecodeP b).2)])) w :=
  pure_ok (F := o57O) (N := 300) (fn := Try.f56) (args := [(V.ints .u8 32 b)]) (r := (V.tup [(V.ints .u64 30 (rDecodeP b).1), (V.bool (rDecodeP b).2)])) (n := 41) hM o57O_ok (noG_ok _) Try.func56 (by kernel_rfl) (by kernel_rfl) (by kernel_rfl) (by kernel_rfl) (rDecodeP_a b) (by kernel_rfl)
theorem g56_ok (vs : List V) (v : V) (h : g56 vs = some (true, v)) : (∀ μ μ', v.den μ' = v.den μ) ∧ ∀ μ w, PureAt Try.prog 56 (vs.map (V.den μ)).toArray (v.den μ) w := by
  unfold g56 at h
  split at h
  · simp only [Option.some.injEq, Prod.mk.injEq, true_and] at h
    subst h
    exact rDecodeP_p _
  · simp at h
noncomputable def o56 : Orc := ext 56 g56 o57O
theorem o56_ok : OrcOK Try.prog o56 := ext_ok o57O_ok g56_ok

theorem rDecodePO_ex : ∃ f : (Nat → Int) → ((Nat → Int) × Bool), f = rDecodeP := ⟨_, rfl⟩
/-- rDecodeP, by a name that is not unfolded. -/
noncomputable def rDecodePO : (Nat → Int) → ((Nat → Int) × Bool) := Classical.choose rDecodePO_ex
theorem rDecodePO_eq : rDecodePO = rDecodeP := Classical.choose_spec rDecodePO_ex
noncomputable def g56O : List V → Option (Bool × V) := fun | [.ints .u8 32 b] => some (true, (V.tup [(V.ints .u64 30 (rDecodePO b).1), (V.bool (rDecodePO b).2)])) | _ => none
theorem g56O_ok (vs : List V) (v : V) (h : g56O vs = some (true, v)) : (∀ μ μ', v.den μ' = v.den μ) ∧ ∀ μ w, PureAt Try.prog 56 (vs.map (V.den μ)).toArray (v.den μ) w := by
  unfold g56O at h
  split at h
  · simp only [Option.some.injEq, Prod.mk.injEq, true_and] at h
    subst h
    rw [rDecodePO_eq]
    exact rDecodeP_p _
  · simp at h
noncomputable def o56O : Orc := ext 56 g56O o56
theorem o56O_ok : OrcOK Try.prog o56O := ext_ok o56_ok g56O_ok
end Go.Proofs.Ytbnclikjbnfodaa

namespace Go.Proofs.Ytbnclikjbnfodaa
open Go.Ev
/- fareboxlaw07.lives -/
noncomputable def lives : Bool := (cond (onPO basePO) (cond (!(equalPO basePO zeroPO)) (cond (!(equalPO basePO (negPO basePO))) (!(onPO (fun _ => 0))) false) false) false)
theorem lives_t : awp Try.prog o56O noG 300 (body Try.f61) (ends Try.prog Try.f61 fun v _ => okV (V.bool lives) v) ⟨[] ++ List.replicate 23 V.un, []⟩ = (mB (onPO basePO) (mB (!(equalPO basePO zeroPO)) (mB (!(equalPO basePO (negPO basePO))) ((V.bool (!(onPO (fun _ => 0)))).den z0 = (V.bool lives).den z0) ((V.bool false).den z0 = (V.bool lives).den z0)) ((V.bool false).den z0 = (V.bool lives).den z0)) ((V.bool false).den z0 = (V.bool lives).den z0)) := by kernel_rfl
theorem lives_a : awp Try.prog o56O noG 300 (body Try.f61) (ends Try.prog Try.f61 fun v _ => okV (V.bool lives) v) ⟨[] ++ List.replicate 23 V.un, []⟩ := by
  rw [lives_t]
  refine mBt (fun h1 => ?_) (fun h1 => ?_)
  · refine mBt (fun h2 => ?_) (fun h2 => ?_)
    · refine mBt (fun h3 => ?_) (fun h3 => ?_)
      · simp only [lives, h1, h2, h3, cond_true]
      · simp only [lives, h1, h2, h3, cond_true, cond_false]
    · simp only [lives, h1, h2, cond_true, cond_false]
  · simp only [lives, h1, cond_false]
noncomputable def g61 : List V → Option (Bool × V) := fun | [] => some (true, (V.bool lives)) | _ => none
theorem lives_p : (∀ μ μ', V.den μ' (V.bool lives) = V.den μ (V.bool lives)) ∧ ∀ μ w, PureAt Try.prog 61 (([] : List V).map (V.den μ)).toArray (V.den μ (V.bool lives)) w :=
  pure_ok (F := o56O) (N := 300) (fn := Try.f61) (args := []) (r := (V.bool lives)) (n := 23) hM o56O_ok (noG_ok _) Try.func61 (by kernel_rfl) (by kernel_rfl) (by kernel_rfl) (by kernel_rfl) (lives_a) (by kernel_rfl)
theorem g61_ok (vs : List V) (v : V) (h : g61 vs = some (true, v)) : (∀ μ μ', v.den μ' = v.den μ) ∧ ∀ μ w, PureAt Try.prog 61 (vs.map (V.den μ)).toArray (v.den μ) w := by
  unfold g61 at h
  split at h
  · simp only [Option.some.injEq, Prod.mk.injEq, true_and] at h
    subst h
    exact lives_p
  · simp at h
noncomputable def o61 : Orc := ext 61 g61 o56O
theorem o61_ok : OrcOK Try.prog o61 := ext_ok o56O_ok g61_ok

theorem livesO_ex : ∃ f : Bool, f = lives := ⟨_, rfl⟩
/-- lives, by a name that is not unfolded. -/
noncomputable def livesO : Bool := Classical.choose livesO_ex
theorem livesO_eq : livesO = lives := Classical.choose_spec livesO_ex
noncomputable def g61O : List V → Option (Bool × V) := fun | [] => some (true, (V.bool livesO)) | _ => none
theorem g61O_ok (vs : List V) (v : V) (h : g61O vs = some (true, v)) : (∀ μ μ', v.den μ' = v.den μ) ∧ ∀ μ w, PureAt Try.prog 61 (vs.map (V.den μ)).toArray (v.den μ) w := by
  unfold g61O at h
  split at h
  · simp only [Option.some.injEq, Prod.mk.injEq, true_and] at h
    subst h
    rw [livesO_eq]
    exact lives_p
  · simp at h
noncomputable def o61O : Orc := ext 61 g61O o61
theorem o61O_ok : OrcOK Try.prog o61O := ext_ok o61_ok g61O_ok

/- fareboxlaw07.point -/
noncomputable def pointP (b : (Nat → Int)) : (Nat → Int) := (cond (!(decodePO b).2) basePO (decodePO b).1)
theorem pointP_t (b : (Nat → Int)) : awp Try.prog o61O noG 300 (body Try.f68) (ends Try.prog Try.f68 fun v _ => okV (V.ints .u64 20 (pointP b)) v) ⟨[(V.ints .u8 32 b)] ++ List.replicate 13 V.un, []⟩ = (mB (!(decodePO b).2) ((V.ints .u64 20 basePO).den z0 = (V.ints .u64 20 (pointP b)).den z0) ((V.ints .u64 20 (decodePO b).1).den z0 = (V.ints .u64 20 (pointP b)).den z0)) := by kernel_rfl
theorem pointP_a (b : (Nat → Int)) : awp Try.prog o61O noG 300 (body Try.f68) (ends Try.prog Try.f68 fun v _ => okV (V.ints .u64 20 (pointP b)) v) ⟨[(V.ints .u8 32 b)] ++ List.replicate 13 V.un, []⟩ := by
  rw [pointP_t]
  refine mBt (fun h1 => ?_) (fun h1 => ?_)
  · simp only [pointP, h1, cond_true]
  · simp only [pointP, h1, cond_false]
noncomputable def g68 : List V → Option (Bool × V) := fun | [.ints .u8 32 b] => some (true, (V.ints .u64 20 (pointP b))) | _ => none
theorem pointP_p (b : (Nat → Int)) : (∀ μ μ', V.den μ' (V.ints .u64 20 (pointP b)) = V.den μ (V.ints .u64 20 (pointP b))) ∧ ∀ μ w, PureAt Try.prog 68 (([(V.ints .u8 32 b)] : List V).map (V.den μ)).toArray (V.den μ (V.ints .u64 20 (pointP b))) w :=
  pure_ok (F := o61O) (N := 300) (fn := Try.f68) (args := [(V.ints .u8 32 b)]) (r := (V.ints .u64 20 (pointP b))) (n := 13) hM o61O_ok (noG_ok _) Try.func68 (by kernel_rfl) (by kernel_rfl) (by kernel_rfl) (by kernel_rfl) (pointP_a b) (by kernel_rfl)
theorem g68_ok (vs : List V) (v : V) (h : g68 vs = some (true, v)) : (∀ μ μ', v.den μ' = v.den μ) ∧ ∀ μ w, PureAt Try.prog 68 (vs.map (V.den μ)).toArray (v.den μ) w := by
  unfold g68 at h
  split at h
  · simp only [Option.some.injEq, Prod.mk.injEq, true_and] at h
    subst h
    exact pointP_p _
  · simp at h
noncomputable def o68 : Orc := ext 68 g68 o61O
theorem o68_ok : OrcOK Try.prog o68 := ext_ok o61O_ok g68_ok

theorem pointPO_ex : ∃ f : (Nat → Int) → (Nat → Int), f = pointP := ⟨_, rfl⟩
/-- pointP, by a name that is not unfolded. -/
noncomputable def pointPO : (Nat → Int) → (Nat → Int) := Classical.choose pointPO_ex
theorem pointPO_eq : pointPO = pointP := Classical.choose_spec pointPO_ex
noncomputable def g68O : List V → Option (Bool × V) := fun | [.ints .u8 32 b] => some (true, (V.ints .u64 20 (pointPO b))) | _ => none
theorem g68O_ok (vs : List V) (v : V) (h : g68O vs = some (true, v)) : (∀ μ μ', v.den μ' = v.den μ) ∧ ∀ μ w, PureAt Try.prog 68 (vs.map (V.den μ)).toArray (v.den μ) w := by
  unfold g68O at h
  split at h
  · simp only [Option.some.injEq, Prod.mk.injEq, true_and] at h
    subst h
    rw [pointPO_eq]
    exact pointP_p _
  · simp at h
noncomputable def o68O : Orc := ext 68 g68O o68
theorem o68O_ok : OrcOK Try.prog o68O := ext_ok o68_ok g68O_ok

/- fareboxlaw07.number -/
noncomputable def number2 : (Nat → Int) := (mulFO (negFO (smallFO 121665)) (invertFO (smallFO 121666)))
theorem number2_t : awp Try.prog o68O noG 300 (body Try.f72) (ends Try.prog Try.f72 fun v _ => okV (V.ints .u64 5 number2) v) ⟨[] ++ List.replicate 6 V.un, []⟩ = ((V.ints .u64 5 number2).den z0 = (V.ints .u64 5 number2).den z0) := by kernel_rfl
theorem number2_a : awp Try.prog o68O noG 300 (body Try.f72) (ends Try.prog Try.f72 fun v _ => okV (V.ints .u64 5 number2) v) ⟨[] ++ List.replicate 6 V.un, []⟩ := by rw [number2_t]
noncomputable def g72 : List V → Option (Bool × V) := fun | [] => some (true, (V.ints .u64 5 number2)) | _ => none
theorem number2_p : (∀ μ μ', V.den μ' (V.ints .u64 5 number2) = V.den μ (V.ints .u64 5 number2)) ∧ ∀ μ w, PureAt Try.prog 72 (([] : List V).map (V.den μ)).toArray (V.den μ (V.ints .u64 5 number2)) w :=
  pure_ok (F := o68O) (N := 300) (fn := Try.f72) (args := []) (r := (V.ints .u64 5 number2)) (n := 6) hM o68O_ok (noG_ok _) Try.func72 (by kernel_rfl) (by kernel_rfl) (by kernel_rfl) (by kernel_rfl) (number2_a) (by kernel_rfl)
theorem g72_ok (vs : List V) (v : V) (h : g72 vs = some (true, v)) : (∀ μ μ', v.den μ' = v.den μ) ∧ ∀ μ w, PureAt Try.prog 72 (vs.map (V.den μ)).toArray (v.den μ) w := by
  unfold g72 at h
  split at h
  · simp only [Option.some.injEq, Prod.mk.injEq, true_and] at h
    subst h
    exact number2_p
  · simp at h
noncomputable def o72 : Orc := ext 72 g72 o68O
theorem o72_ok : OrcOK Try.prog o72 := ext_ok o68O_ok g72_ok

theorem number2O_ex : ∃ f : (Nat → Int), f = number2 := ⟨_, rfl⟩
/-- number2, by a name that is not unfolded. -/
noncomputable def number2O : (Nat → Int) := Classical.choose number2O_ex
theorem number2O_eq : number2O = number2 := Classical.choose_spec number2O_ex
noncomputable def g72O : List V → Option (Bool × V) := fun | [] => some (true, (V.ints .u64 5 number2O)) | _ => none
theorem g72O_ok (vs : List V) (v : V) (h : g72O vs = some (true, v)) : (∀ μ μ', v.den μ' = v.den μ) ∧ ∀ μ w, PureAt Try.prog 72 (vs.map (V.den μ)).toArray (v.den μ) w := by
  unfold g72O at h
  split at h
  · simp only [Option.some.injEq, Prod.mk.injEq, true_and] at h
    subst h
    rw [number2O_eq]
    exact number2_p
  · simp at h
noncomputable def o72O : Orc := ext 72 g72O o72
theorem o72O_ok : OrcOK Try.prog o72O := ext_ok o72_ok g72O_ok

/- fareboxlaw07.flat -/
noncomputable def flatP (q : (Nat → Int)) : ((Nat → Int) × (Nat → Int)) := ((mulFO (sh 0 q) (invertFO (sh 10 q))), (mulFO (sh 5 q) (invertFO (sh 10 q))))
theorem flatP_t (q : (Nat → Int)) : awp Try.prog o72O noG 300 (body Try.f60) (ends Try.prog Try.f60 fun v _ => okV (V.tup [(V.ints .u64 5 (flatP q).1), (V.ints .u64 5 (flatP q).2)]) v) ⟨[(V.ints .u64 20 q)] ++ List.replicate 15 V.un, []⟩ = ((V.tup [(V.ints .u64 5 (flatP q).1), (V.ints .u64 5 (flatP q).2)]).den z0 = (V.tup [(V.ints .u64 5 (flatP q).1), (V.ints .u64 5 (flatP q).2)]).den z0) := by kernel_rfl
theorem flatP_a (q : (Nat → Int)) : awp Try.prog o72O noG 300 (body Try.f60) (ends Try.prog Try.f60 fun v _ => okV (V.tup [(V.ints .u64 5 (flatP q).1), (V.ints .u64 5 (flatP q).2)]) v) ⟨[(V.ints .u64 20 q)] ++ List.replicate 15 V.un, []⟩ := by rw [flatP_t]
noncomputable def g60 : List V → Option (Bool × V) := fun | [.ints .u64 20 q] => some (true, (V.tup [(V.ints .u64 5 (flatP q).1), (V.ints .u64 5 (flatP q).2)])) | _ => none
theorem flatP_p (q : (Nat → Int)) : (∀ μ μ', V.den μ' (V.tup [(V.ints .u64 5 (flatP q).1), (V.ints .u64 5 (flatP q).2)]) = V.den μ (V.tup [(V.ints .u64 5 (flatP q).1), (V.ints .u64 5 (flatP q).2)])) ∧ ∀ μ w, PureAt Try.prog 60 (([(V.ints .u64 20 q)] : List V).map (V.den μ)).toArray (V.den μ (V.tup [(V.ints .u64 5 (flatP q).1), (V.ints .u64 5 (flatP q).2)])) w :=
  pure_ok (F := o72O) (N := 300) (fn := Try.f60) (args := [(V.ints .u64 20 q)]) (r := (V.tup [(V.ints .u64 5 (flatP q).1), (V.ints .u64 5 (flatP q).2)])) (n := 15) hM o72O_ok (noG_ok _) Try.func60 (by kernel_rfl) (by kernel_rfl) (by kernel_rfl) (by kernel_rfl) (flatP_a q) (by kernel_rfl)
theorem g60_ok (vs : List V) (v : V) (h : g60 vs = some (true, v)) : (∀ μ μ', v.den μ' = v.den μ) ∧ ∀ μ w, PureAt Try.prog 60 (vs.map (V.den μ)).toArray (v.den μ) w := by
  unfold g60 at h
  split at h
  · simp only [Option.some.injEq, Prod.mk.injEq, true_and] at h
    subst h
    exact flatP_p _
  · simp at h
noncomputable def o60 : Orc := ext 60 g60 o72O
theorem o60_ok : OrcOK Try.prog o60 := ext_ok o72O_ok g60_ok

theorem flatPO_ex : ∃ f : (Nat → Int) → ((Nat → Int) × (Nat → Int)), f = flatP := ⟨_, rfl⟩
/-- flatP, by a name that is not unfolded. -/
noncomputable def flatPO : (Nat → Int) → ((Nat → Int) × (Nat → Int)) := Classical.choose flatPO_ex
theorem flatPO_eq : flatPO = flatP := Classical.choose_spec flatPO_ex
noncomputable def g60O : List V → Option (Bool × V) := fun | [.ints .u64 20 q] => some (true, (V.tup [(V.ints .u64 5 (flatPO q).1), (V.ints .u64 5 (flatPO q).2)])) | _ => none
theorem g60O_ok (vs : List V) (v : V) (h : g60O vs = some (true, v)) : (∀ μ μ', v.den μ' = v.den μ) ∧ ∀ μ w, PureAt Try.prog 60 (vs.map (V.den μ)).toArray (v.den μ) w := by
  unfold g60O at h
  split at h
  · simp only [Option.some.injEq, Prod.mk.injEq, true_and] at h
    subst h
    rw [flatPO_eq]
    exact flatP_p _
  · simp at h
noncomputable def o60O : Orc := ext 60 g60O o60
theorem o60O_ok : OrcOK Try.prog o60O := ext_ok o60_ok g60O_ok

/- fareboxlaw07.onLaw -/
noncomputable def onLawP (q : (Nat → Int)) : Bool := (cond (!(isZeroFO (sh 10 q))) (cond (equalFO (subFO (squareFO (flatPO q).2) (squareFO (flatPO q).1)) (addFO (smallFO 1) (mulFO number2O (mulFO (squareFO (flatPO q).1) (squareFO (flatPO q).2))))) (equalFO (mulFO (sh 15 q) (invertFO (sh 10 q))) (mulFO (flatPO q).1 (flatPO q).2)) false) false)
theorem onLawP_t (q : (Nat → Int)) : awp Try.prog o60O noG 300 (body Try.f71) (ends Try.prog Try.f71 fun v _ => okV (V.bool (onLawP q)) v) ⟨[(V.ints .u64 20 q)] ++ List.replicate 48 V.un, []⟩ = (mB (!(isZeroFO (sh 10 q))) (mB (equalFO (subFO (squareFO (flatPO q).2) (squareFO (flatPO q).1)) (addFO (smallFO 1) (mulFO number2O (mulFO (squareFO (flatPO q).1) (squareFO (flatPO q).2))))) ((V.bool (equalFO (mulFO (sh 15 q) (invertFO (sh 10 q))) (mulFO (flatPO q).1 (flatPO q).2))).den z0 = (V.bool (onLawP q)).den z0) ((V.bool false).den z0 = (V.bool (onLawP q)).den z0)) ((V.bool false).den z0 = (V.bool (onLawP q)).den z0)) := by kernel_rfl
theorem onLawP_a (q : (Nat → Int)) : awp Try.prog o60O noG 300 (body Try.f71) (ends Try.prog Try.f71 fun v _ => okV (V.bool (onLawP q)) v) ⟨[(V.ints .u64 20 q)] ++ List.replicate 48 V.un, []⟩ := by
  rw [onLawP_t]
  refine mBt (fun h1 => ?_) (fun h1 => ?_)
  · refine mBt (fun h2 => ?_) (fun h2 => ?_)
    · simp only [onLawP, h1, h2, cond_true]
    · simp only [onLawP, h1, h2, cond_true, cond_false]
  · simp only [onLawP, h1, cond_false]
noncomputable def g71 : List V → Option (Bool × V) := fun | [.ints .u64 20 q] => some (true, (V.bool (onLawP q))) | _ => none
theorem onLawP_p (q : (Nat → Int)) : (∀ μ μ', V.den μ' (V.bool (onLawP q)) = V.den μ (V.bool (onLawP q))) ∧ ∀ μ w, PureAt Try.prog 71 (([(V.ints .u64 20 q)] : List V).map (V.den μ)).toArray (V.den μ (V.bool (onLawP q))) w :=
  pure_ok (F := o60O) (N := 300) (fn := Try.f71) (args := [(V.ints .u64 20 q)]) (r := (V.bool (onLawP q))) (n := 48) hM o60O_ok (noG_ok _) Try.func71 (by kernel_rfl) (by kernel_rfl) (by kernel_rfl) (by kernel_rfl) (onLawP_a q) (by kernel_rfl)
theorem g71_ok (vs : List V) (v : V) (h : g71 vs = some (true, v)) : (∀ μ μ', v.den μ' = v.den μ) ∧ ∀ μ w, PureAt Try.prog 71 (vs.map (V.den μ)).toArray (v.den μ) w := by
  unfold g71 at h
  split at h
  · simp only [Option.some.injEq, Prod.mk.injEq, true_and] at h
    subst h
    exact onLawP_p _
  · simp at h
noncomputable def o71 : Orc := ext 71 g71 o60O
theorem o71_ok : OrcOK Try.prog o71 := ext_ok o60O_ok g71_ok

theorem onLawPO_ex : ∃ f : (Nat → Int) → Bool, f = onLawP := ⟨_, rfl⟩
/-- onLawP, by a name that is not unfolded. -/
noncomputable def onLawPO : (Nat → Int) → Bool := Classical.choose onLawPO_ex
theorem onLawPO_eq : onLawPO = onLawP := Classical.choose_spec onLawPO_ex
noncomputable def g71O : List V → Option (Bool × V) := fun | [.ints .u64 20 q] => some (true, (V.bool (onLawPO q))) | _ => none
theorem g71O_ok (vs : List V) (v : V) (h : g71O vs = some (true, v)) : (∀ μ μ', v.den μ' = v.den μ) ∧ ∀ μ w, PureAt Try.prog 71 (vs.map (V.den μ)).toArray (v.den μ) w := by
  unfold g71O at h
  split at h
  · simp only [Option.some.injEq, Prod.mk.injEq, true_and] at h
    subst h
    rw [onLawPO_eq]
    exact onLawP_p _
  · simp at h
noncomputable def o71O : Orc := ext 71 g71O o71
theorem o71O_ok : OrcOK Try.prog o71O := ext_ok o71_ok g71O_ok
end Go.Proofs.Ytbnclikjbnfodaa

/-
  The curve's calls in numbers: what each answers of the forms of points. Conditions: none.
-/
namespace Go.Proofs.Ytbnclikjbnfodaa
set_option maxRecDepth 100000
open Go.Ev Go.Num

/-- Limbs that mean k. -/
def Ik (x : Nat → Int) (k : K) : Prop := U5 x ∧ kk (v5 x) = k
theorem Is.k {x : Nat → Int} {X : Int} (h : Is x X) : Ik x (kk X) := ⟨h.u, kk_iff.2 h.v⟩
theorem Ik.to {x : Nat → Int} {a b : K} (h : Ik x a) (e : a = b) : Ik x b := e ▸ h
theorem fiv {P : Nat → Prop} (h0 : P 0) (h1 : P 1) (h2 : P 2) (h3 : P 3) (h4 : P 4) : ∀ j, j < 5 → P j
  | 0, _ => h0 | 1, _ => h1 | 2, _ => h2 | 3, _ => h3 | 4, _ => h4
  | n + 5, h => absurd h (by omega)
theorem Ik.congr {x y : Nat → Int} {k : K} (h : Ik x k) (e : ∀ j, j < 5 → y j = x j) : Ik y k :=
  ⟨fun j hj => by rw [e j hj]; exact h.1 j hj, by rw [show v5 y = v5 x from dv_congr e]; exact h.2⟩
theorem Ik.as {x y : Nat → Int} {a b : K} (h : Ik x a) (e : ∀ j, j < 5 → y j = x j) (k : a = b) : Ik y b := (h.congr e).to k
theorem kk_z {a : Int} : kk a = 0 ↔ a % p = 0 := by rw [← kk_0, kk_iff]; rfl

theorem addE {x y : Nat → Int} {a b : K} (hx : Ik x a) (hy : Ik y b) : Ik (addFO x y) (a + b) := by
  rw [addFO_eq, ← hx.2, ← hy.2, ← kk_add]; exact (add_i hx.1 hy.1).k
theorem subE {x y : Nat → Int} {a b : K} (hx : Ik x a) (hy : Ik y b) : Ik (subFO x y) (a - b) := by
  rw [subFO_eq, ← hx.2, ← hy.2, ← kk_sub]; exact (sub_i hx.1 hy.1).k
theorem mulE2 {x y : Nat → Int} {a b : K} (hx : Ik x a) (hy : Ik y b) : Ik (mulFO x y) (a * b) := by
  rw [mulFO_eq, ← hx.2, ← hy.2, ← kk_mul]; exact (mul_i hx.1 hy.1).k
theorem sqE {x : Nat → Int} {a : K} (hx : Ik x a) : Ik (squareFO x) (a * a) := by
  rw [squareFO_eq, ← hx.2, ← kk_mul]; exact (sq_i hx.1).k
theorem negE {x : Nat → Int} {a : K} (hx : Ik x a) : Ik (negFO x) (-a) := by
  rw [negFO_eq, ← hx.2, ← kk_neg]; exact (neg_i hx.1).k
theorem smallE (n : Int) (h0 : 0 ≤ n) (h1 : n < 18446744073709551616) : Ik (smallFO n) (kk n) := by
  rw [smallFO_eq]; exact (small_i n h0 h1).k
theorem invE {x : Nat → Int} {a : K} (hx : Ik x a) : Ik (invertFO x) (ki a) := by
  rw [invertFO_eq, ← hx.2, ← kk_inv]; exact (inv_i hx.1).k
theorem equalE {x y : Nat → Int} {a b : K} (hx : Ik x a) (hy : Ik y b) : equalFO x y = decide (a = b) := by
  rw [equalFO_eq, equal_v hx.1 hy.1, ← hx.2, ← hy.2]; exact decide_eq_decide.2 kk_iff.symm
theorem isZeroE {x : Nat → Int} {a : K} (hx : Ik x a) : isZeroFO x = decide (a = 0) := by
  rw [isZeroFO_eq, isZero_v hx.1, ← hx.2]; exact decide_eq_decide.2 kk_z.symm
theorem isOddE {x : Nat → Int} {a : K} (hx : Ik x a) : isOddFO x = decide (a.val % 2 = 1) := by
  rw [isOddFO_eq, isOdd_v hx.1, ← hx.2, ← kk_val, Bool.eq_iff_iff]
  simp only [beq_iff_eq, decide_eq_true_eq]
  omega

/-! ### Bytes -/
theorem vb_top {b : Nat → Int} (h : B32 b) : vb b = dv 256 31 b + 452312848583266388373324160190187140051835877600158453279131187530910662656 * b 31 ∧ 0 ≤ dv 256 31 b ∧ dv 256 31 b < 452312848583266388373324160190187140051835877600158453279131187530910662656 := by
  have h1 : vb b = dv 256 31 b + pw 256 31 * b 31 := dv_top (n := 31)
  have h2 := dv_bound (B := 256) (n := 31) (a := b) (by omega) (fun i hi => h i (by omega))
  have e : pw 256 31 = 452312848583266388373324160190187140051835877600158453279131187530910662656 := by decide
  rw [e] at h1 h2
  exact ⟨h1, h2⟩
theorem vb_up {b : Nat → Int} (h : B32 b) {c : Int} (hc : 0 ≤ c ∧ c < 256) : B32 (up 31 c b) ∧ vb (up 31 c b) = dv 256 31 b + 452312848583266388373324160190187140051835877600158453279131187530910662656 * c := by
  have hB : B32 (up 31 c b) := fun j hj => by
    rw [up_at]; split
    · exact hc
    · exact h j hj
  refine ⟨hB, ?_⟩
  rw [(vb_top hB).1, up_at, if_pos rfl, dv_congr (b := b) (fun i hi => by rw [up_at, if_neg (by omega)])]
theorem vb_inj {a b : Nat → Int} (ha : B32 a) (hb : B32 b) : eqN 32 a b = decide (vb a = vb b) := by
  rw [Bool.eq_iff_iff, eqN_iff, decide_eq_true_eq]
  constructor
  · exact fun h => dv_congr h
  · exact fun h => dv_inj (by omega) ha hb h
theorem bytesE {x : Nat → Int} {a : K} (hx : Ik x a) : B32 (bytesFO x) ∧ vb (bytesFO x) = (a.val : Int) := by
  have h : ∀ j, j < 32 → bytesFO x j = (a.val : Int) / 256 ^ j % 256 := fun j hj => by rw [bytesFO_eq, bytes_v hx.1 j hj, ← hx.2, kk_val]
  refine ⟨fun j hj => by rw [h j hj]; omega, ?_⟩
  show dv 256 32 _ = _
  rw [dv_congr h, dv_digits (by omega)]
  have := a.isLt
  exact Int.emod_eq_of_lt (by omega) (by rw [show (256 : Int) ^ 32 = 115792089237316195423570985008687907853269984665640564039457584007913129639936 by decide]; omega)
theorem fromBytesE {b : Nat → Int} (h : B32 b) : Ik (fromBytesFO b) (kk (vb b % 57896044618658097711785492504343953926634992332820282019728792003956564819968)) := by
  obtain ⟨f1, f2⟩ := fromBytes_v h
  rw [fromBytesFO_eq]
  exact ⟨f2.u, by rw [f1, kk_iff, me]⟩
theorem canonM {N M : Int} (hM : M = N % 57896044618658097711785492504343953926634992332820282019728792003956564819968 % p) : 0 ≤ M ∧ M < 57896044618658097711785492504343953926634992332820282019728792003956564819949 := by
  subst hM
  exact ⟨Int.emod_nonneg _ (show p ≠ 0 by decide), Int.emod_lt_of_pos _ (show 0 < p by decide)⟩
theorem ltL {N : Int} (h : N < p) : N < 57896044618658097711785492504343953926634992332820282019728792003956564819968 := Int.lt_trans h (by decide)
theorem canonN {N M : Int} (h0 : 0 ≤ N) (hM : M = N % 57896044618658097711785492504343953926634992332820282019728792003956564819968 % p) : M = N ↔ N < p := by
  constructor
  · intro h
    rw [← h, hM]
    exact Int.emod_lt_of_pos _ (show 0 < p by decide)
  · intro h
    rw [hM, Int.emod_eq_of_lt h0 (ltL h), Int.emod_eq_of_lt h0 h]
theorem canon_iff {b : Nat → Int} (h : B32 b) {c : Nat → Int} {N M : Int} (hN : vb b = N) (hM : M = N % 57896044618658097711785492504343953926634992332820282019728792003956564819968 % p) (hc : ∀ j, j < 32 → c j = M / 256 ^ j % 256) : eqN 32 c b = decide (vb b < p) := by
  have hM0 := canonM hM
  have hB : B32 c := fun j hj => by rw [hc j hj]; omega
  have hv : vb c = M := by
    show dv 256 32 _ = _
    rw [dv_congr hc, dv_digits (by omega)]
    exact Int.emod_eq_of_lt (by omega) (by rw [show (256 : Int) ^ 32 = 115792089237316195423570985008687907853269984665640564039457584007913129639936 by decide]; omega)
  have h0 := (vb_bound h).1
  rw [hN] at h0
  rw [vb_inj hB h, hv, hN]
  exact decide_eq_decide.2 (canonN h0 hM)
theorem canonicalE {b : Nat → Int} (h : B32 b) : canonicalFO b = decide (vb b < p) := by
  obtain ⟨f1, f2⟩ := fromBytes_v h
  rw [canonicalFO_eq]
  unfold canonicalF
  generalize hN : vb b = N at f1
  rw [← hN]
  exact canon_iff h hN rfl (fun j hj => by rw [bytes_v f2.u j hj, f1, me])

/-! ### Known numbers -/
theorem U5_of {x : Nat → Int} (h : ∀ j, j < 5 → 0 ≤ x j ∧ x j < 18446744073709551616) : U5 x := h
theorem unitE : Ik unitFO 1 := by
  rw [unitFO_eq]
  exact ⟨fiv (by decide) (by decide) (by decide) (by decide) (by decide), by rw [← kk_1, kk_iff]; decide⟩
theorem zeroE : Ik (fun _ => 0) 0 := ⟨fiv (by decide) (by decide) (by decide) (by decide) (by decide), by rw [← kk_0, kk_iff]; decide⟩
theorem limbsE : Ik limbsFO D := by
  rw [limbsFO_eq]
  exact ⟨fiv (by decide) (by decide) (by decide) (by decide) (by decide), by unfold D; rw [kk_iff]; decide⟩
theorem doubledE : Ik doubledFO (D + D) := by
  rw [doubledFO_eq]
  exact ⟨fiv (by decide) (by decide) (by decide) (by decide) (by decide), by unfold D; rw [← kk_add, kk_iff]; decide⟩
theorem numberE : Ik numberFO D := by
  rw [numberFO_eq]
  unfold numberF
  refine (fromBytesE (by unfold B32; decide)).to ?_
  unfold D
  rw [kk_iff]
  decide
theorem number2E : Ik number2O D := by
  rw [number2O_eq]
  unfold number2
  refine (mulE2 (negE (smallE 121665 (by omega) (by omega))) (invE (smallE 121666 (by omega) (by omega)))).to ?_
  have h0 : kk 121666 ≠ 0 := by rw [Ne, kk_z]; decide
  have h : D * kk 121666 = -kk 121665 := by
    unfold D
    rw [← kk_mul, ← kk_neg, kk_iff]; decide
  have hw := ki_mul h0
  rw [← h]
  generalize ki (kk 121666) = w at *
  generalize kk 121666 = c at *
  generalize D = d at *
  clear h h0
  grind -lia

/-! ### Forms of a point -/
/-- q is a form of the point A. -/
def Fm (q : Nat → Int) (A : Pn) : Prop := ∃ z : K, z ≠ 0 ∧ Ik (sh 0 q) (A.x * z) ∧ Ik (sh 5 q) (A.y * z) ∧ Ik (sh 10 q) z ∧ Ik (sh 15 q) (A.x * A.y * z)
theorem closedE {e f g h : Nat → Int} {a b c d : K} (he : Ik e a) (hf : Ik f b) (hg : Ik g c) (hh : Ik h d) :
    Ik (sh 0 (closedFO e f g h)) (a * b) ∧ Ik (sh 5 (closedFO e f g h)) (c * d) ∧ Ik (sh 10 (closedFO e f g h)) (b * c) ∧ Ik (sh 15 (closedFO e f g h)) (a * d) := by
  rw [closedFO_eq]
  exact ⟨(mulE2 he hf).congr (fiv rfl rfl rfl rfl rfl), (mulE2 hg hh).congr (fiv rfl rfl rfl rfl rfl), (mulE2 hf hg).congr (fiv rfl rfl rfl rfl rfl), (mulE2 he hh).congr (fiv rfl rfl rfl rfl rfl)⟩
theorem two_ne : (2 : K) ≠ 0 := by decide
theorem addP_fm {q r : Nat → Int} {A B : Pn} (hq : Fm q A) (hr : Fm r B) : Fm (addPO q r) (A.add B) := by
  obtain ⟨z, hz, x1, y1, z1, t1⟩ := hq
  obtain ⟨w, hw, x2, y2, z2, t2⟩ := hr
  have ax := add_x A B
  have ay := add_y A B
  obtain ⟨n1, n2⟩ := full A.on B.on
  rw [addPO_eq]
  unfold addP
  have hb := mulE2 (addE y1 x1) (addE y2 x2)
  have ha := mulE2 (subE y1 x1) (subE y2 x2)
  have hd := mulE2 (addE z1 z1) z2
  have hc := mulE2 (mulE2 t1 doubledE) t2
  obtain ⟨h1, h2, h3, h4⟩ := closedE (subE hb ha) (subE hd hc) (addE hd hc) (addE hb ha)
  refine ⟨_, ?_, h1.to ?_, h2.to ?_, h3, h4.to ?_⟩
  · have e : ((z + z) * w - A.x * A.y * z * (D + D) * (B.x * B.y * w)) * ((z + z) * w + A.x * A.y * z * (D + D) * (B.x * B.y * w)) = (2 * 2) * ((z * w) * (z * w)) * ((1 - D * A.x * B.x * A.y * B.y) * (1 + D * A.x * B.x * A.y * B.y)) := by
      generalize D = d
      clear ax ay n1 n2 hb ha hd hc h1 h2 h3 h4 x1 y1 z1 t1 x2 y2 z2 t2
      grind -lia
    rw [e]
    exact k_mul_ne (k_mul_ne (k_mul_ne two_ne two_ne) (k_mul_ne (k_mul_ne hz hw) (k_mul_ne hz hw))) (k_mul_ne n2 n1)
  all_goals
    generalize (A.add B).x = X at *
    generalize (A.add B).y = Y at *
    generalize D = d at *
    clear n1 n2 hb ha hd hc h1 h2 h3 h4 x1 y1 z1 t1 x2 y2 z2 t2
    generalize A.x = a at *
    generalize A.y = b at *
    generalize B.x = a' at *
    generalize B.y = b' at *
    clear A B q r hz hw
  · have e1 : (b * z + a * z) * (b' * w + a' * w) - (b * z - a * z) * (b' * w - a' * w) = 2 * (z * w) * (a * b' + a' * b) := by clear ax ay; grind -lia
    rw [e1, ← ax]
    clear ax ay e1
    grind -lia
  · have e1 : (b * z + a * z) * (b' * w + a' * w) + (b * z - a * z) * (b' * w - a' * w) = 2 * (z * w) * (b * b' + a * a') := by clear ax ay; grind -lia
    rw [e1, ← ay]
    clear ax ay e1
    grind -lia
  · have e1 : (b * z + a * z) * (b' * w + a' * w) - (b * z - a * z) * (b' * w - a' * w) = 2 * (z * w) * (a * b' + a' * b) := by clear ax ay; grind -lia
    have e2 : (b * z + a * z) * (b' * w + a' * w) + (b * z - a * z) * (b' * w - a' * w) = 2 * (z * w) * (b * b' + a * a') := by clear ax ay e1; grind -lia
    rw [e1, e2, ← ax, ← ay]
    clear ax ay e1 e2
    grind -lia
theorem doubleP_fm {q : Nat → Int} {A : Pn} (hq : Fm q A) : Fm (doublePO q) (A.add A) := by
  obtain ⟨z, hz, x1, y1, z1, t1⟩ := hq
  have ax := add_x A A
  have ay := add_y A A
  have on := A.on
  unfold OnK at on
  obtain ⟨n1, n2⟩ := full A.on A.on
  rw [doublePO_eq]
  unfold doubleP
  have hh := addE (sqE x1) (sqE y1)
  have he := subE hh (sqE (addE x1 y1))
  have hg := subE (sqE x1) (sqE y1)
  have hf := addE (addE (sqE z1) (sqE z1)) hg
  obtain ⟨h1, h2, h3, h4⟩ := closedE he hf hg hh
  have eg : A.x * z * (A.x * z) - A.y * z * (A.y * z) = -(1 + D * A.x * A.x * A.y * A.y) * (z * z) := by
    generalize D = d at *
    clear ax ay n1 n2 hh he hg hf h1 h2 h3 h4 x1 y1 z1 t1
    grind -lia
  have ef : z * z + z * z + (A.x * z * (A.x * z) - A.y * z * (A.y * z)) = (1 - D * A.x * A.x * A.y * A.y) * (z * z) := by
    generalize D = d at *
    clear ax ay n1 n2 hh he hg hf h1 h2 h3 h4 x1 y1 z1 t1
    grind -lia
  have eh : A.x * z * (A.x * z) + A.y * z * (A.y * z) = (A.y * A.y + A.x * A.x) * (z * z) := by
    clear on ax ay n1 n2 hh he hg hf h1 h2 h3 h4 x1 y1 z1 t1 eg ef
    grind -lia
  have ee : A.x * z * (A.x * z) + A.y * z * (A.y * z) - (A.x * z + A.y * z) * (A.x * z + A.y * z) = -(A.x * A.y + A.x * A.y) * (z * z) := by
    clear on ax ay n1 n2 hh he hg hf h1 h2 h3 h4 x1 y1 z1 t1 eg ef eh
    grind -lia
  rw [ee, ef, ← ax] at h1
  rw [eg, eh, ← ay] at h2
  rw [ef, eg] at h3
  rw [ee, eh, ← ax, ← ay] at h4
  refine ⟨_, ?_, h1.to ?_, h2.to ?_, h3, h4.to ?_⟩
  · intro h0
    refine k_mul_ne (k_mul_ne n2 (k_mul_ne hz hz)) (k_mul_ne n1 (k_mul_ne hz hz)) ?_
    generalize D = d at *
    clear on ax ay n1 n2 hh he hg hf h1 h2 h3 h4 x1 y1 z1 t1 eg ef eh ee
    grind -lia
  all_goals
    generalize (A.add A).x = X at *
    generalize (A.add A).y = Y at *
    generalize D * A.x * A.x * A.y * A.y = e at *
    clear on ax ay n1 n2 hh he hg hf h1 h2 h3 h4 x1 y1 z1 t1 eg ef eh ee hz
    grind -lia
theorem negP_fm {q : Nat → Int} {A : Pn} (hq : Fm q A) : Fm (negPO q) A.neg := by
  obtain ⟨z, hz, x1, y1, z1, t1⟩ := hq
  rw [negPO_eq]
  have nx := negE x1
  have nt := negE t1
  refine ⟨z, hz, nx.as (fiv rfl rfl rfl rfl rfl) ?_, y1.congr (fiv rfl rfl rfl rfl rfl), z1.congr (fiv rfl rfl rfl rfl rfl), nt.as (fiv rfl rfl rfl rfl rfl) ?_⟩
  · show -(A.x * z) = -A.x * z
    clear nx nt x1 y1 z1 t1; grind -lia
  · show -(A.x * A.y * z) = -A.x * A.y * z
    clear nx nt x1 y1 z1 t1; grind -lia
theorem zeroP_fm : Fm zeroPO .zero := by
  rw [zeroPO_eq]
  refine ⟨1, by decide, zeroE.as (fiv rfl rfl rfl rfl rfl) ?_, unitE.as (fiv rfl rfl rfl rfl rfl) ?_, unitE.congr (fiv rfl rfl rfl rfl rfl), zeroE.as (fiv rfl rfl rfl rfl rfl) ?_⟩ <;> decide
/-- The base point. -/
noncomputable def Bp : Pn := ⟨kk 15112221349535400772501151409588531511454012693041857206046113283949847762202, kk 46316835694926478169428394003475163141307993866256225615783033603165251855960, by
  unfold OnK D
  rw [← kk_1]
  simp only [← kk_mul, ← kk_add, ← kk_sub]
  rw [kk_iff]; decide⟩
theorem startP_fm : Fm startPO Bp := by
  rw [startPO_eq]
  have hx := fromBytesE (b := up 31 33 (up 30 105 (up 29 54 (up 28 211 (up 27 205 (up 26 110 (up 25 83 (up 24 254 (up 23 192 (up 22 164 (up 21 226 (up 20 49 (up 19 253 (up 18 214 (up 17 220 (up 16 92 (up 15 105 (up 14 44 (up 13 199 (up 12 96 (up 11 149 (up 10 37 (up 9 167 (up 8 178 (up 7 201 (up 6 86 (up 5 45 (up 4 96 (up 3 143 (up 2 37 (up 1 213 (up 0 26 (fun _ => 0))))))))))))))))))))))))))))))))) (by unfold B32; decide)
  have hy := fromBytesE (b := up 31 102 (up 30 102 (up 29 102 (up 28 102 (up 27 102 (up 26 102 (up 25 102 (up 24 102 (up 23 102 (up 22 102 (up 21 102 (up 20 102 (up 19 102 (up 18 102 (up 17 102 (up 16 102 (up 15 102 (up 14 102 (up 13 102 (up 12 102 (up 11 102 (up 10 102 (up 9 102 (up 8 102 (up 7 102 (up 6 102 (up 5 102 (up 4 102 (up 3 102 (up 2 102 (up 1 102 (up 0 88 (fun _ => 0))))))))))))))))))))))))))))))))) (by unfold B32; decide)
  have ht := mulE2 hx hy
  have one : (1 : K) ≠ 0 := by decide
  have e1 : ∀ k : K, k = k * 1 := fun k => (Fin.mul_one k).symm
  refine ⟨1, one, hx.as (fiv rfl rfl rfl rfl rfl) ?_, hy.as (fiv rfl rfl rfl rfl rfl) ?_, unitE.congr (fiv rfl rfl rfl rfl rfl), ht.as (fiv rfl rfl rfl rfl rfl) ?_⟩
  · refine Eq.trans ?_ (e1 _)
    show _ = kk _
    rw [kk_iff]; decide
  · refine Eq.trans ?_ (e1 _)
    show _ = kk _
    rw [kk_iff]; decide
  · refine Eq.trans ?_ (e1 _)
    show _ = kk _ * kk _
    rw [← kk_mul, ← kk_mul, kk_iff]; decide
theorem baseP_fm : Fm basePO Bp := by
  rw [basePO_eq]; exact startP_fm
theorem equalP_iff {q r : Nat → Int} {A B : Pn} (hq : Fm q A) (hr : Fm r B) : equalPO q r = true ↔ A = B := by
  obtain ⟨z, hz, x1, y1, z1, t1⟩ := hq
  obtain ⟨w, hw, x2, y2, z2, t2⟩ := hr
  rw [equalPO_eq]
  unfold equalP
  rw [equalE (mulE2 x1 z2) (mulE2 x2 z1), equalE (mulE2 y1 z2) (mulE2 y2 z1)]
  have c : ∀ a b : K, a * z * w = b * w * z ↔ a = b := fun a b => by
    constructor
    · intro h
      refine k_cancel (k_mul_ne hz hw) ?_
      clear x1 y1 z1 t1 x2 y2 z2 t2
      grind -lia
    · intro h
      subst h
      clear x1 y1 z1 t1 x2 y2 z2 t2
      grind -lia
  by_cases hx : A.x = B.x
  · rw [decide_eq_true ((c _ _).2 hx), cond_true, decide_eq_true_eq, c]
    exact ⟨fun h => Pn.ext' hx h, fun h => by rw [h]⟩
  · rw [decide_eq_false (fun h => hx ((c _ _).1 h)), cond_false]
    exact ⟨fun h => absurd h (by simp), fun h => absurd (by rw [h]) hx⟩
theorem onP_of {q : Nat → Int} {A : Pn} (hq : Fm q A) : onPO q = true := by
  obtain ⟨z, hz, x1, y1, z1, t1⟩ := hq
  have on := A.on
  unfold OnK at on
  rw [onPO_eq]
  unfold onP
  rw [isZeroE z1, decide_eq_false hz, equalE (mulE2 x1 y1) (mulE2 z1 t1), equalE (subE (sqE y1) (sqE x1)) (addE (sqE z1) (mulE2 numberE (sqE t1)))]
  have e1 : A.x * z * (A.y * z) = z * (A.x * A.y * z) := by clear on x1 y1 z1 t1; grind -lia
  have e2 : A.y * z * (A.y * z) - A.x * z * (A.x * z) = z * z + D * (A.x * A.y * z * (A.x * A.y * z)) := by
    generalize D = d at *
    clear x1 y1 z1 t1 e1; grind -lia
  rw [decide_eq_true e1, decide_eq_true e2]; rfl
/-- The four coordinates are limbs that uint64 holds. -/
def U20 (q : Nat → Int) : Prop := U5 (sh 0 q) ∧ U5 (sh 5 q) ∧ U5 (sh 10 q) ∧ U5 (sh 15 q)
theorem onP_point {q : Nat → Int} (hu : U20 q) (h : onPO q = true) : ∃ A, Fm q A := by
  obtain ⟨u0, u5, u10, u15⟩ := hu
  have x1 : Ik (sh 0 q) _ := ⟨u0, rfl⟩
  have y1 : Ik (sh 5 q) _ := ⟨u5, rfl⟩
  have z1 : Ik (sh 10 q) _ := ⟨u10, rfl⟩
  have t1 : Ik (sh 15 q) _ := ⟨u15, rfl⟩
  generalize kk (v5 (sh 0 q)) = X at x1
  generalize kk (v5 (sh 5 q)) = Y at y1
  generalize kk (v5 (sh 10 q)) = Z at z1
  generalize kk (v5 (sh 15 q)) = T at t1
  rw [onPO_eq] at h
  unfold onP at h
  rw [isZeroE z1, equalE (mulE2 x1 y1) (mulE2 z1 t1), equalE (subE (sqE y1) (sqE x1)) (addE (sqE z1) (mulE2 numberE (sqE t1)))] at h
  by_cases h0 : Z = 0
  · rw [decide_eq_true h0] at h; exact absurd h (by simp)
  rw [decide_eq_false h0, Bool.not_false, cond_true] at h
  by_cases h1 : X * Y = Z * T
  · rw [decide_eq_true h1, cond_true, decide_eq_true_eq] at h
    have hw := ki_mul h0
    generalize ki Z = w at hw
    refine ⟨⟨X * w, Y * w, ?_⟩, Z, h0, x1.to ?_, y1.to ?_, z1, t1.to ?_⟩
    · unfold OnK
      generalize D = d at *
      clear x1 y1 z1 t1 u0 u5 u10 u15 h0
      have e1 : Y * w * (Y * w) - X * w * (X * w) = (Y * Y - X * X) * (w * w) := by clear h h1 hw; grind -lia
      have e2 : 1 + d * (X * w) * (X * w) * (Y * w) * (Y * w) = 1 + d * (X * Y * w) * (X * Y * w) * (w * w) := by clear h h1 hw e1; grind -lia
      rw [e1, h, e2, h1]
      clear h h1 e1 e2
      grind -lia
    · show X = X * w * Z
      clear x1 y1 z1 t1 h; grind -lia
    · show Y = Y * w * Z
      clear x1 y1 z1 t1 h; grind -lia
    · show T = X * w * (Y * w) * Z
      clear x1 y1 z1 t1 h; grind -lia
  · rw [decide_eq_false h1] at h; exact absurd h (by simp)
end Go.Proofs.Ytbnclikjbnfodaa
