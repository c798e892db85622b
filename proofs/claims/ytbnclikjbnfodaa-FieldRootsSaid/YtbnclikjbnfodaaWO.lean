import Derived.Test.YtbnclikjbnfodaaWN
import Derived.Test.YtbnclikjbnfodaaRows
namespace Go.Proofs.Ytbnclikjbnfodaa
open Go.Ev
theorem addFO_ex : ∃ f : (Nat → Int) → (Nat → Int) → (Nat → Int), f = addF := ⟨_, rfl⟩
/-- addF, by a name that is not unfolded. -/
noncomputable def addFO : (Nat → Int) → (Nat → Int) → (Nat → Int) := Classical.choose addFO_ex
theorem addFO_eq : addFO = addF := Classical.choose_spec addFO_ex
noncomputable def g29O : List V → Option (Bool × V) := fun | [.ints .u64 5 x, .ints .u64 5 y] => some (true, (V.ints .u64 5 (addFO x y))) | _ => none
theorem g29O_ok (vs : List V) (v : V) (h : g29O vs = some (true, v)) : (∀ μ μ', v.den μ' = v.den μ) ∧ ∀ μ w, PureAt Try.prog 29 (vs.map (V.den μ)).toArray (v.den μ) w := by
  unfold g29O at h
  split at h
  · simp only [Option.some.injEq, Prod.mk.injEq, true_and] at h
    subst h
    rw [addFO_eq]
    exact addF_p _ _
  · simp at h
noncomputable def o29O : Orc := ext 29 g29O o21O
theorem o29O_ok : OrcOK Try.prog o29O := ext_ok o21O_ok g29O_ok

theorem subFO_ex : ∃ f : (Nat → Int) → (Nat → Int) → (Nat → Int), f = subF := ⟨_, rfl⟩
/-- subF, by a name that is not unfolded. -/
noncomputable def subFO : (Nat → Int) → (Nat → Int) → (Nat → Int) := Classical.choose subFO_ex
theorem subFO_eq : subFO = subF := Classical.choose_spec subFO_ex
noncomputable def g31O : List V → Option (Bool × V) := fun | [.ints .u64 5 x, .ints .u64 5 y] => some (true, (V.ints .u64 5 (subFO x y))) | _ => none
theorem g31O_ok (vs : List V) (v : V) (h : g31O vs = some (true, v)) : (∀ μ μ', v.den μ' = v.den μ) ∧ ∀ μ w, PureAt Try.prog 31 (vs.map (V.den μ)).toArray (v.den μ) w := by
  unfold g31O at h
  split at h
  · simp only [Option.some.injEq, Prod.mk.injEq, true_and] at h
    subst h
    rw [subFO_eq]
    exact subF_p _ _
  · simp at h
noncomputable def o31O : Orc := ext 31 g31O o29O
theorem o31O_ok : OrcOK Try.prog o31O := ext_ok o29O_ok g31O_ok

theorem negFO_ex : ∃ f : (Nat → Int) → (Nat → Int), f = negF := ⟨_, rfl⟩
/-- negF, by a name that is not unfolded. -/
noncomputable def negFO : (Nat → Int) → (Nat → Int) := Classical.choose negFO_ex
theorem negFO_eq : negFO = negF := Classical.choose_spec negFO_ex
noncomputable def g33O : List V → Option (Bool × V) := fun | [.ints .u64 5 x] => some (true, (V.ints .u64 5 (negFO x))) | _ => none
theorem g33O_ok (vs : List V) (v : V) (h : g33O vs = some (true, v)) : (∀ μ μ', v.den μ' = v.den μ) ∧ ∀ μ w, PureAt Try.prog 33 (vs.map (V.den μ)).toArray (v.den μ) w := by
  unfold g33O at h
  split at h
  · simp only [Option.some.injEq, Prod.mk.injEq, true_and] at h
    subst h
    rw [negFO_eq]
    exact negF_p _
  · simp at h
noncomputable def o33O : Orc := ext 33 g33O o31O
theorem o33O_ok : OrcOK Try.prog o33O := ext_ok o31O_ok g33O_ok

theorem smallFO_ex : ∃ f : Int → (Nat → Int), f = smallF := ⟨_, rfl⟩
/-- smallF, by a name that is not unfolded. -/
noncomputable def smallFO : Int → (Nat → Int) := Classical.choose smallFO_ex
theorem smallFO_eq : smallFO = smallF := Classical.choose_spec smallFO_ex
noncomputable def g41O : List V → Option (Bool × V) := fun | [.int .u64 n] => some (true, (V.ints .u64 5 (smallFO n))) | _ => none
theorem g41O_ok (vs : List V) (v : V) (h : g41O vs = some (true, v)) : (∀ μ μ', v.den μ' = v.den μ) ∧ ∀ μ w, PureAt Try.prog 41 (vs.map (V.den μ)).toArray (v.den μ) w := by
  unfold g41O at h
  split at h
  · simp only [Option.some.injEq, Prod.mk.injEq, true_and] at h
    subst h
    rw [smallFO_eq]
    exact smallF_p _
  · simp at h
noncomputable def o41O : Orc := ext 41 g41O o33O
theorem o41O_ok : OrcOK Try.prog o41O := ext_ok o33O_ok g41O_ok

theorem mulFO_ex : ∃ f : (Nat → Int) → (Nat → Int) → (Nat → Int), f = mulF := ⟨_, rfl⟩
/-- mulF, by a name that is not unfolded. -/
noncomputable def mulFO : (Nat → Int) → (Nat → Int) → (Nat → Int) := Classical.choose mulFO_ex
theorem mulFO_eq : mulFO = mulF := Classical.choose_spec mulFO_ex
noncomputable def g43O : List V → Option (Bool × V) := fun | [.ints .u64 5 x, .ints .u64 5 y] => some (true, (V.ints .u64 5 (mulFO x y))) | _ => none
theorem g43O_ok (vs : List V) (v : V) (h : g43O vs = some (true, v)) : (∀ μ μ', v.den μ' = v.den μ) ∧ ∀ μ w, PureAt Try.prog 43 (vs.map (V.den μ)).toArray (v.den μ) w := by
  unfold g43O at h
  split at h
  · simp only [Option.some.injEq, Prod.mk.injEq, true_and] at h
    subst h
    rw [mulFO_eq]
    exact mulF_p _ _
  · simp at h
noncomputable def o43O : Orc := ext 43 g43O o41O
theorem o43O_ok : OrcOK Try.prog o43O := ext_ok o41O_ok g43O_ok

theorem squareFO_ex : ∃ f : (Nat → Int) → (Nat → Int), f = squareF := ⟨_, rfl⟩
/-- squareF, by a name that is not unfolded. -/
noncomputable def squareFO : (Nat → Int) → (Nat → Int) := Classical.choose squareFO_ex
theorem squareFO_eq : squareFO = squareF := Classical.choose_spec squareFO_ex
noncomputable def g45O : List V → Option (Bool × V) := fun | [.ints .u64 5 x] => some (true, (V.ints .u64 5 (squareFO x))) | _ => none
theorem g45O_ok (vs : List V) (v : V) (h : g45O vs = some (true, v)) : (∀ μ μ', v.den μ' = v.den μ) ∧ ∀ μ w, PureAt Try.prog 45 (vs.map (V.den μ)).toArray (v.den μ) w := by
  unfold g45O at h
  split at h
  · simp only [Option.some.injEq, Prod.mk.injEq, true_and] at h
    subst h
    rw [squareFO_eq]
    exact squareF_p _
  · simp at h
noncomputable def o45O : Orc := ext 45 g45O o43O
theorem o45O_ok : OrcOK Try.prog o45O := ext_ok o43O_ok g45O_ok

theorem selectFO_ex : ∃ f : Bool → (Nat → Int) → (Nat → Int) → (Nat → Int), f = selectF := ⟨_, rfl⟩
/-- selectF, by a name that is not unfolded. -/
noncomputable def selectFO : Bool → (Nat → Int) → (Nat → Int) → (Nat → Int) := Classical.choose selectFO_ex
theorem selectFO_eq : selectFO = selectF := Classical.choose_spec selectFO_ex
noncomputable def g28O : List V → Option (Bool × V) := fun | [.bool c, .ints .u64 5 x, .ints .u64 5 y] => some (true, (V.ints .u64 5 (selectFO c x y))) | _ => none
theorem g28O_ok (vs : List V) (v : V) (h : g28O vs = some (true, v)) : (∀ μ μ', v.den μ' = v.den μ) ∧ ∀ μ w, PureAt Try.prog 28 (vs.map (V.den μ)).toArray (v.den μ) w := by
  unfold g28O at h
  split at h
  · simp only [Option.some.injEq, Prod.mk.injEq, true_and] at h
    subst h
    rw [selectFO_eq]
    exact selectF_p _ _ _
  · simp at h
noncomputable def o28O : Orc := ext 28 g28O o45O
theorem o28O_ok : OrcOK Try.prog o28O := ext_ok o45O_ok g28O_ok

theorem isZeroFO_ex : ∃ f : (Nat → Int) → Bool, f = isZeroF := ⟨_, rfl⟩
/-- isZeroF, by a name that is not unfolded. -/
noncomputable def isZeroFO : (Nat → Int) → Bool := Classical.choose isZeroFO_ex
theorem isZeroFO_eq : isZeroFO = isZeroF := Classical.choose_spec isZeroFO_ex
noncomputable def g23O : List V → Option (Bool × V) := fun | [.ints .u64 5 x] => some (true, (V.bool (isZeroFO x))) | _ => none
theorem g23O_ok (vs : List V) (v : V) (h : g23O vs = some (true, v)) : (∀ μ μ', v.den μ' = v.den μ) ∧ ∀ μ w, PureAt Try.prog 23 (vs.map (V.den μ)).toArray (v.den μ) w := by
  unfold g23O at h
  split at h
  · simp only [Option.some.injEq, Prod.mk.injEq, true_and] at h
    subst h
    rw [isZeroFO_eq]
    exact isZeroF_p _
  · simp at h
noncomputable def o23O : Orc := ext 23 g23O o28O
theorem o23O_ok : OrcOK Try.prog o23O := ext_ok o28O_ok g23O_ok

theorem isOddFO_ex : ∃ f : (Nat → Int) → Bool, f = isOddF := ⟨_, rfl⟩
/-- isOddF, by a name that is not unfolded. -/
noncomputable def isOddFO : (Nat → Int) → Bool := Classical.choose isOddFO_ex
theorem isOddFO_eq : isOddFO = isOddF := Classical.choose_spec isOddFO_ex
noncomputable def g25O : List V → Option (Bool × V) := fun | [.ints .u64 5 x] => some (true, (V.bool (isOddFO x))) | _ => none
theorem g25O_ok (vs : List V) (v : V) (h : g25O vs = some (true, v)) : (∀ μ μ', v.den μ' = v.den μ) ∧ ∀ μ w, PureAt Try.prog 25 (vs.map (V.den μ)).toArray (v.den μ) w := by
  unfold g25O at h
  split at h
  · simp only [Option.some.injEq, Prod.mk.injEq, true_and] at h
    subst h
    rw [isOddFO_eq]
    exact isOddF_p _
  · simp at h
noncomputable def o25O : Orc := ext 25 g25O o23O
theorem o25O_ok : OrcOK Try.prog o25O := ext_ok o23O_ok g25O_ok

theorem equalFO_ex : ∃ f : (Nat → Int) → (Nat → Int) → Bool, f = equalF := ⟨_, rfl⟩
/-- equalF, by a name that is not unfolded. -/
noncomputable def equalFO : (Nat → Int) → (Nat → Int) → Bool := Classical.choose equalFO_ex
theorem equalFO_eq : equalFO = equalF := Classical.choose_spec equalFO_ex
noncomputable def g22O : List V → Option (Bool × V) := fun | [.ints .u64 5 x, .ints .u64 5 y] => some (true, (V.bool (equalFO x y))) | _ => none
theorem g22O_ok (vs : List V) (v : V) (h : g22O vs = some (true, v)) : (∀ μ μ', v.den μ' = v.den μ) ∧ ∀ μ w, PureAt Try.prog 22 (vs.map (V.den μ)).toArray (v.den μ) w := by
  unfold g22O at h
  split at h
  · simp only [Option.some.injEq, Prod.mk.injEq, true_and] at h
    subst h
    rw [equalFO_eq]
    exact equalF_p _ _
  · simp at h
noncomputable def o22O : Orc := ext 22 g22O o25O
theorem o22O_ok : OrcOK Try.prog o22O := ext_ok o25O_ok g22O_ok
end Go.Proofs.Ytbnclikjbnfodaa
