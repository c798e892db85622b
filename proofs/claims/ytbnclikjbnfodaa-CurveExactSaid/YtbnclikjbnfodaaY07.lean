/-
  A part of the groundwork of this seat's claims: an evaluator over the program, walks, and plain mathematics. Conditions: none.
-/
import Derived.Test.YtbnclikjbnfodaaY06
import Derived.Test.YtbnclikjbnfodaaFvV
namespace Go.Proofs.Ytbnclikjbnfodaa
open Go.Ev
/- fareboxref07.Zero -/
noncomputable def rZeroP : (Nat → Int) := (L [((rSmallO 0) 0), ((rSmallO 0) 1), ((rSmallO 0) 2), ((rSmallO 0) 3), ((rSmallO 0) 4), ((rSmallO 0) 5), ((rSmallO 0) 6), ((rSmallO 0) 7), ((rSmallO 0) 8), ((rSmallO 0) 9), ((rSmallO 1) 0), ((rSmallO 1) 1), ((rSmallO 1) 2), ((rSmallO 1) 3), ((rSmallO 1) 4), ((rSmallO 1) 5), ((rSmallO 1) 6), ((rSmallO 1) 7), ((rSmallO 1) 8), ((rSmallO 1) 9), ((rSmallO 1) 0), ((rSmallO 1) 1), ((rSmallO 1) 2), ((rSmallO 1) 3), ((rSmallO 1) 4), ((rSmallO 1) 5), ((rSmallO 1) 6), ((rSmallO 1) 7), ((rSmallO 1) 8), ((rSmallO 1) 9)])
theorem rZeroP_t : awp Try.prog o75O noG 300 (body Try.f107) (ends Try.prog Try.f107 fun v _ => okV (V.ints .u64 30 rZeroP) v) ⟨[] ++ List.replicate 5 V.un, []⟩ = ((V.ints .u64 30 rZeroP).den z0 = (V.ints .u64 30 rZeroP).den z0) := by kernel_rfl
theorem rZeroP_a : awp Try.prog o75O noG 300 (body Try.f107) (ends Try.prog Try.f107 fun v _ => okV (V.ints .u64 30 rZeroP) v) ⟨[] ++ List.replicate 5 V.un, []⟩ := by rw [rZeroP_t]
noncomputable def g107 : List V → Option (Bool × V) := fun | [] => some (true, (V.ints .u64 30 rZeroP)) | _ => none
theorem rZeroP_p : (∀ μ μ', V.den μ' (V.ints .u64 30 rZeroP) = V.den μ (V.ints .u64 30 rZeroP)) ∧ ∀ μ w, PureAt Try.prog 107 (([] : List V).map (V.den μ)).toArray (V.den μ (V.ints .u64 30 rZeroP)) w :=
  pure_ok (F := o75O) (N := 300) (fn := Try.f107) (args := []) (r := (V.ints .u64 30 rZeroP)) (n := 5) hM o75O_ok (noG_ok _) Try.func107 (by kernel_rfl) (by kernel_rfl) (by kernel_rfl) (by kernel_rfl) (rZeroP_a) (by kernel_rfl)
theorem g107_ok (vs : List V) (v : V) (h : g107 vs = some (true, v)) : (∀ μ μ', v.den μ' = v.den μ) ∧ ∀ μ w, PureAt Try.prog 107 (vs.map (V.den μ)).toArray (v.den μ) w := by
  unfold g107 at h
  split at h
  · simp only [Option.some.injEq, Prod.mk.injEq, true_and] at h
    subst h
    exact rZeroP_p
  · simp at h
noncomputable def o107 : Orc := ext 107 g107 o75O
theorem o107_ok : OrcOK Try.prog o107 := ext_ok o75O_ok g107_ok

theorem rZeroPO_ex : ∃ f : (Nat → Int), f = rZeroP := ⟨_, rfl⟩
/-- rZeroP, by a name that is not unfolded. -/
noncomputable def rZeroPO : (Nat → Int) := Classical.choose rZeroPO_ex
theorem rZeroPO_eq : rZeroPO = rZeroP := Classical.choose_spec rZeroPO_ex
noncomputable def g107O : List V → Option (Bool × V) := fun | [] => some (true, (V.ints .u64 30 rZeroPO)) | _ => none
theorem g107O_ok (vs : List V) (v : V) (h : g107O vs = some (true, v)) : (∀ μ μ', v.den μ' = v.den μ) ∧ ∀ μ w, PureAt Try.prog 107 (vs.map (V.den μ)).toArray (v.den μ) w := by
  unfold g107O at h
  split at h
  · simp only [Option.some.injEq, Prod.mk.injEq, true_and] at h
    subst h
    rw [rZeroPO_eq]
    exact rZeroP_p
  · simp at h
noncomputable def o107O : Orc := ext 107 g107O o107
theorem o107O_ok : OrcOK Try.prog o107O := ext_ok o107_ok g107O_ok

/- fareboxref07.Add -/
noncomputable def rAddP (q : (Nat → Int)) (r : (Nat → Int)) : (Nat → Int) := (spl 20 10 30 (rMulO (rSubO (rMulO (rMulO (sh 20 q) (sh 20 r)) (rMulO (sh 20 q) (sh 20 r))) (rMulO rDO (rMulO (rMulO (sh 0 q) (sh 0 r)) (rMulO (sh 10 q) (sh 10 r))))) (rAddO (rMulO (rMulO (sh 20 q) (sh 20 r)) (rMulO (sh 20 q) (sh 20 r))) (rMulO rDO (rMulO (rMulO (sh 0 q) (sh 0 r)) (rMulO (sh 10 q) (sh 10 r)))))) (spl 10 10 30 (rMulO (rMulO (rMulO (sh 20 q) (sh 20 r)) (rAddO (rMulO (rMulO (sh 20 q) (sh 20 r)) (rMulO (sh 20 q) (sh 20 r))) (rMulO rDO (rMulO (rMulO (sh 0 q) (sh 0 r)) (rMulO (sh 10 q) (sh 10 r)))))) (rAddO (rMulO (sh 10 q) (sh 10 r)) (rMulO (sh 0 q) (sh 0 r)))) (spl 0 10 30 (rMulO (rMulO (rMulO (sh 20 q) (sh 20 r)) (rSubO (rMulO (rMulO (sh 20 q) (sh 20 r)) (rMulO (sh 20 q) (sh 20 r))) (rMulO rDO (rMulO (rMulO (sh 0 q) (sh 0 r)) (rMulO (sh 10 q) (sh 10 r)))))) (rAddO (rMulO (sh 0 q) (sh 10 r)) (rMulO (sh 10 q) (sh 0 r)))) (fun _ => 0))))
theorem rAddP_t (q : (Nat → Int)) (r : (Nat → Int)) : awp Try.prog o107O noG 300 (body Try.f108) (ends Try.prog Try.f108 fun v _ => okV (V.ints .u64 30 (rAddP q r)) v) ⟨[(V.ints .u64 30 q), (V.ints .u64 30 r)] ++ List.replicate 71 V.un, []⟩ = ((V.ints .u64 30 (rAddP q r)).den z0 = (V.ints .u64 30 (rAddP q r)).den z0) := by kernel_rfl
theorem rAddP_a (q : (Nat → Int)) (r : (Nat → Int)) : awp Try.prog o107O noG 300 (body Try.f108) (ends Try.prog Try.f108 fun v _ => okV (V.ints .u64 30 (rAddP q r)) v) ⟨[(V.ints .u64 30 q), (V.ints .u64 30 r)] ++ List.replicate 71 V.un, []⟩ := by rw [rAddP_t]
noncomputable def g108 : List V → Option (Bool × V) := fun | [.ints .u64 30 q, .ints .u64 30 r] => some (true, (V.ints .u64 30 (rAddP q r))) | _ => none
theorem rAddP_p (q : (Nat → Int)) (r : (Nat → Int)) : (∀ μ μ', V.den μ' (V.ints .u64 30 (rAddP q r)) = V.den μ (V.ints .u64 30 (rAddP q r))) ∧ ∀ μ w, PureAt Try.prog 108 (([(V.ints .u64 30 q), (V.ints .u64 30 r)] : List V).map (V.den μ)).toArray (V.den μ (V.ints .u64 30 (rAddP q r))) w :=
  pure_ok (F := o107O) (N := 300) (fn := Try.f108) (args := [(V.ints .u64 30 q), (V.ints .u64 30 r)]) (r := (V.ints .u64 30 (rAddP q r))) (n := 71) hM o107O_ok (noG_ok _) Try.func108 (by kernel_rfl) (by kernel_rfl) (by kernel_rfl) (by kernel_rfl) (rAddP_a q r) (by kernel_rfl)
theorem g108_ok (vs : List V) (v : V) (h : g108 vs = some (true, v)) : (∀ μ μ', v.den μ' = v.den μ) ∧ ∀ μ w, PureAt Try.prog 108 (vs.map (V.den μ)).toArray (v.den μ) w := by
  unfold g108 at h
  split at h
  · simp only [Option.some.injEq, Prod.mk.injEq, true_and] at h
    subst h
    exact rAddP_p _ _
  · simp at h
noncomputable def o108 : Orc := ext 108 g108 o107O
theorem o108_ok : OrcOK Try.prog o108 := ext_ok o107O_ok g108_ok

theorem rAddPO_ex : ∃ f : (Nat → Int) → (Nat → Int) → (Nat → Int), f = rAddP := ⟨_, rfl⟩
/-- rAddP, by a name that is not unfolded. -/
noncomputable def rAddPO : (Nat → Int) → (Nat → Int) → (Nat → Int) := Classical.choose rAddPO_ex
theorem rAddPO_eq : rAddPO = rAddP := Classical.choose_spec rAddPO_ex
noncomputable def g108O : List V → Option (Bool × V) := fun | [.ints .u64 30 q, .ints .u64 30 r] => some (true, (V.ints .u64 30 (rAddPO q r))) | _ => none
theorem g108O_ok (vs : List V) (v : V) (h : g108O vs = some (true, v)) : (∀ μ μ', v.den μ' = v.den μ) ∧ ∀ μ w, PureAt Try.prog 108 (vs.map (V.den μ)).toArray (v.den μ) w := by
  unfold g108O at h
  split at h
  · simp only [Option.some.injEq, Prod.mk.injEq, true_and] at h
    subst h
    rw [rAddPO_eq]
    exact rAddP_p _ _
  · simp at h
noncomputable def o108O : Orc := ext 108 g108O o108
theorem o108O_ok : OrcOK Try.prog o108O := ext_ok o108_ok g108O_ok

/- fareboxref07.Double -/
noncomputable def rDoubleP (q : (Nat → Int)) : (Nat → Int) := (L [((rMulO (rAddO (rMulO (sh 0 q) (sh 10 q)) (rMulO (sh 0 q) (sh 10 q))) (rSubO (rAddO (rMulO (sh 20 q) (sh 20 q)) (rMulO (sh 20 q) (sh 20 q))) (rSubO (rMulO (sh 10 q) (sh 10 q)) (rMulO (sh 0 q) (sh 0 q))))) 0), ((rMulO (rAddO (rMulO (sh 0 q) (sh 10 q)) (rMulO (sh 0 q) (sh 10 q))) (rSubO (rAddO (rMulO (sh 20 q) (sh 20 q)) (rMulO (sh 20 q) (sh 20 q))) (rSubO (rMulO (sh 10 q) (sh 10 q)) (rMulO (sh 0 q) (sh 0 q))))) 1), ((rMulO (rAddO (rMulO (sh 0 q) (sh 10 q)) (rMulO (sh 0 q) (sh 10 q))) (rSubO (rAddO (rMulO (sh 20 q) (sh 20 q)) (rMulO (sh 20 q) (sh 20 q))) (rSubO (rMulO (sh 10 q) (sh 10 q)) (rMulO (sh 0 q) (sh 0 q))))) 2), ((rMulO (rAddO (rMulO (sh 0 q) (sh 10 q)) (rMulO (sh 0 q) (sh 10 q))) (rSubO (rAddO (rMulO (sh 20 q) (sh 20 q)) (rMulO (sh 20 q) (sh 20 q))) (rSubO (rMulO (sh 10 q) (sh 10 q)) (rMulO (sh 0 q) (sh 0 q))))) 3), ((rMulO (rAddO (rMulO (sh 0 q) (sh 10 q)) (rMulO (sh 0 q) (sh 10 q))) (rSubO (rAddO (rMulO (sh 20 q) (sh 20 q)) (rMulO (sh 20 q) (sh 20 q))) (rSubO (rMulO (sh 10 q) (sh 10 q)) (rMulO (sh 0 q) (sh 0 q))))) 4), ((rMulO (rAddO (rMulO (sh 0 q) (sh 10 q)) (rMulO (sh 0 q) (sh 10 q))) (rSubO (rAddO (rMulO (sh 20 q) (sh 20 q)) (rMulO (sh 20 q) (sh 20 q))) (rSubO (rMulO (sh 10 q) (sh 10 q)) (rMulO (sh 0 q) (sh 0 q))))) 5), ((rMulO (rAddO (rMulO (sh 0 q) (sh 10 q)) (rMulO (sh 0 q) (sh 10 q))) (rSubO (rAddO (rMulO (sh 20 q) (sh 20 q)) (rMulO (sh 20 q) (sh 20 q))) (rSubO (rMulO (sh 10 q) (sh 10 q)) (rMulO (sh 0 q) (sh 0 q))))) 6), ((rMulO (rAddO (rMulO (sh 0 q) (sh 10 q)) (rMulO (sh 0 q) (sh 10 q))) (rSubO (rAddO (rMulO (sh 20 q) (sh 20 q)) (rMulO (sh 20 q) (sh 20 q))) (rSubO (rMulO (sh 10 q) (sh 10 q)) (rMulO (sh 0 q) (sh 0 q))))) 7), ((rMulO (rAddO (rMulO (sh 0 q) (sh 10 q)) (rMulO (sh 0 q) (sh 10 q))) (rSubO (rAddO (rMulO (sh 20 q) (sh 20 q)) (rMulO (sh 20 q) (sh 20 q))) (rSubO (rMulO (sh 10 q) (sh 10 q)) (rMulO (sh 0 q) (sh 0 q))))) 8), ((rMulO (rAddO (rMulO (sh 0 q) (sh 10 q)) (rMulO (sh 0 q) (sh 10 q))) (rSubO (rAddO (rMulO (sh 20 q) (sh 20 q)) (rMulO (sh 20 q) (sh 20 q))) (rSubO (rMulO (sh 10 q) (sh 10 q)) (rMulO (sh 0 q) (sh 0 q))))) 9), ((rMulO (rAddO (rMulO (sh 0 q) (sh 0 q)) (rMulO (sh 10 q) (sh 10 q))) (rSubO (rMulO (sh 10 q) (sh 10 q)) (rMulO (sh 0 q) (sh 0 q)))) 0), ((rMulO (rAddO (rMulO (sh 0 q) (sh 0 q)) (rMulO (sh 10 q) (sh 10 q))) (rSubO (rMulO (sh 10 q) (sh 10 q)) (rMulO (sh 0 q) (sh 0 q)))) 1), ((rMulO (rAddO (rMulO (sh 0 q) (sh 0 q)) (rMulO (sh 10 q) (sh 10 q))) (rSubO (rMulO (sh 10 q) (sh 10 q)) (rMulO (sh 0 q) (sh 0 q)))) 2), ((rMulO (rAddO (rMulO (sh 0 q) (sh 0 q)) (rMulO (sh 10 q) (sh 10 q))) (rSubO (rMulO (sh 10 q) (sh 10 q)) (rMulO (sh 0 q) (sh 0 q)))) 3), ((rMulO (rAddO (rMulO (sh 0 q) (sh 0 q)) (rMulO (sh 10 q) (sh 10 q))) (rSubO (rMulO (sh 10 q) (sh 10 q)) (rMulO (sh 0 q) (sh 0 q)))) 4), ((rMulO (rAddO (rMulO (sh 0 q) (sh 0 q)) (rMulO (sh 10 q) (sh 10 q))) (rSubO (rMulO (sh 10 q) (sh 10 q)) (rMulO (sh 0 q) (sh 0 q)))) 5), ((rMulO (rAddO (rMulO (sh 0 q) (sh 0 q)) (rMulO (sh 10 q) (sh 10 q))) (rSubO (rMulO (sh 10 q) (sh 10 q)) (rMulO (sh 0 q) (sh 0 q)))) 6), ((rMulO (rAddO (rMulO (sh 0 q) (sh 0 q)) (rMulO (sh 10 q) (sh 10 q))) (rSubO (rMulO (sh 10 q) (sh 10 q)) (rMulO (sh 0 q) (sh 0 q)))) 7), ((rMulO (rAddO (rMulO (sh 0 q) (sh 0 q)) (rMulO (sh 10 q) (sh 10 q))) (rSubO (rMulO (sh 10 q) (sh 10 q)) (rMulO (sh 0 q) (sh 0 q)))) 8), ((rMulO (rAddO (rMulO (sh 0 q) (sh 0 q)) (rMulO (sh 10 q) (sh 10 q))) (rSubO (rMulO (sh 10 q) (sh 10 q)) (rMulO (sh 0 q) (sh 0 q)))) 9), ((rMulO (rSubO (rMulO (sh 10 q) (sh 10 q)) (rMulO (sh 0 q) (sh 0 q))) (rSubO (rAddO (rMulO (sh 20 q) (sh 20 q)) (rMulO (sh 20 q) (sh 20 q))) (rSubO (rMulO (sh 10 q) (sh 10 q)) (rMulO (sh 0 q) (sh 0 q))))) 0), ((rMulO (rSubO (rMulO (sh 10 q) (sh 10 q)) (rMulO (sh 0 q) (sh 0 q))) (rSubO (rAddO (rMulO (sh 20 q) (sh 20 q)) (rMulO (sh 20 q) (sh 20 q))) (rSubO (rMulO (sh 10 q) (sh 10 q)) (rMulO (sh 0 q) (sh 0 q))))) 1), ((rMulO (rSubO (rMulO (sh 10 q) (sh 10 q)) (rMulO (sh 0 q) (sh 0 q))) (rSubO (rAddO (rMulO (sh 20 q) (sh 20 q)) (rMulO (sh 20 q) (sh 20 q))) (rSubO (rMulO (sh 10 q) (sh 10 q)) (rMulO (sh 0 q) (sh 0 q))))) 2), ((rMulO (rSubO (rMulO (sh 10 q) (sh 10 q)) (rMulO (sh 0 q) (sh 0 q))) (rSubO (rAddO (rMulO (sh 20 q) (sh 20 q)) (rMulO (sh 20 q) (sh 20 q))) (rSubO (rMulO (sh 10 q) (sh 10 q)) (rMulO (sh 0 q) (sh 0 q))))) 3), ((rMulO (rSubO (rMulO (sh 10 q) (sh 10 q)) (rMulO (sh 0 q) (sh 0 q))) (rSubO (rAddO (rMulO (sh 20 q) (sh 20 q)) (rMulO (sh 20 q) (sh 20 q))) (rSubO (rMulO (sh 10 q) (sh 10 q)) (rMulO (sh 0 q) (sh 0 q))))) 4), ((rMulO (rSubO (rMulO (sh 10 q) (sh 10 q)) (rMulO (sh 0 q) (sh 0 q))) (rSubO (rAddO (rMulO (sh 20 q) (sh 20 q)) (rMulO (sh 20 q) (sh 20 q))) (rSubO (rMulO (sh 10 q) (sh 10 q)) (rMulO (sh 0 q) (sh 0 q))))) 5), ((rMulO (rSubO (rMulO (sh 10 q) (sh 10 q)) (rMulO (sh 0 q) (sh 0 q))) (rSubO (rAddO (rMulO (sh 20 q) (sh 20 q)) (rMulO (sh 20 q) (sh 20 q))) (rSubO (rMulO (sh 10 q) (sh 10 q)) (rMulO (sh 0 q) (sh 0 q))))) 6), ((rMulO (rSubO (rMulO (sh 10 q) (sh 10 q)) (rMulO (sh 0 q) (sh 0 q))) (rSubO (rAddO (rMulO (sh 20 q) (sh 20 q)) (rMulO (sh 20 q) (sh 20 q))) (rSubO (rMulO (sh 10 q) (sh 10 q)) (rMulO (sh 0 q) (sh 0 q))))) 7), ((rMulO (rSubO (rMulO (sh 10 q) (sh 10 q)) (rMulO (sh 0 q) (sh 0 q))) (rSubO (rAddO (rMulO (sh 20 q) (sh 20 q)) (rMulO (sh 20 q) (sh 20 q))) (rSubO (rMulO (sh 10 q) (sh 10 q)) (rMulO (sh 0 q) (sh 0 q))))) 8), ((rMulO (rSubO (rMulO (sh 10 q) (sh 10 q)) (rMulO (sh 0 q) (sh 0 q))) (rSubO (rAddO (rMulO (sh 20 q) (sh 20 q)) (rMulO (sh 20 q) (sh 20 q))) (rSubO (rMulO (sh 10 q) (sh 10 q)) (rMulO (sh 0 q) (sh 0 q))))) 9)])
theorem rDoubleP_t (q : (Nat → Int)) : awp Try.prog o108O noG 300 (body Try.f109) (ends Try.prog Try.f109 fun v _ => okV (V.ints .u64 30 (rDoubleP q)) v) ⟨[(V.ints .u64 30 q)] ++ List.replicate 54 V.un, []⟩ = ((V.ints .u64 30 (rDoubleP q)).den z0 = (V.ints .u64 30 (rDoubleP q)).den z0) := by kernel_rfl
theorem rDoubleP_a (q : (Nat → Int)) : awp Try.prog o108O noG 300 (body Try.f109) (ends Try.prog Try.f109 fun v _ => okV (V.ints .u64 30 (rDoubleP q)) v) ⟨[(V.ints .u64 30 q)] ++ List.replicate 54 V.un, []⟩ := by rw [rDoubleP_t]
noncomputable def g109 : List V → Option (Bool × V) := fun | [.ints .u64 30 q] => some (true, (V.ints .u64 30 (rDoubleP q))) | _ => none
theorem rDoubleP_p (q : (Nat → Int)) : (∀ μ μ', V.den μ' (V.ints .u64 30 (rDoubleP q)) = V.den μ (V.ints .u64 30 (rDoubleP q))) ∧ ∀ μ w, PureAt Try.prog 109 (([(V.ints .u64 30 q)] : List V).map (V.den μ)).toArray (V.den μ (V.ints .u64 30 (rDoubleP q))) w :=
  pure_ok (F := o108O) (N := 300) (fn := Try.f109) (args := [(V.ints .u64 30 q)]) (r := (V.ints .u64 30 (rDoubleP q))) (n := 54) hM o108O_ok (noG_ok _) Try.func109 (by kernel_rfl) (by kernel_rfl) (by kernel_rfl) (by kernel_rfl) (rDoubleP_a q) (by kernel_rfl)
theorem g109_ok (vs : List V) (v : V) (h : g109 vs = some (true, v)) : (∀ μ μ', v.den μ' = v.den μ) ∧ ∀ μ w, PureAt Try.prog 109 (vs.map (V.den μ)).toArray (v.den μ) w := by
  unfold g109 at h
  split at h
  · simp only [Option.some.injEq, Prod.mk.injEq, true_and] at h
    subst h
    exact rDoubleP_p _
  · simp at h
noncomputable def o109 : Orc := ext 109 g109 o108O
theorem o109_ok : OrcOK Try.prog o109 := ext_ok o108O_ok g109_ok

theorem rDoublePO_ex : ∃ f : (Nat → Int) → (Nat → Int), f = rDoubleP := ⟨_, rfl⟩
/-- rDoubleP, by a name that is not unfolded. -/
noncomputable def rDoublePO : (Nat → Int) → (Nat → Int) := Classical.choose rDoublePO_ex
theorem rDoublePO_eq : rDoublePO = rDoubleP := Classical.choose_spec rDoublePO_ex
noncomputable def g109O : List V → Option (Bool × V) := fun | [.ints .u64 30 q] => some (true, (V.ints .u64 30 (rDoublePO q))) | _ => none
theorem g109O_ok (vs : List V) (v : V) (h : g109O vs = some (true, v)) : (∀ μ μ', v.den μ' = v.den μ) ∧ ∀ μ w, PureAt Try.prog 109 (vs.map (V.den μ)).toArray (v.den μ) w := by
  unfold g109O at h
  split at h
  · simp only [Option.some.injEq, Prod.mk.injEq, true_and] at h
    subst h
    rw [rDoublePO_eq]
    exact rDoubleP_p _
  · simp at h
noncomputable def o109O : Orc := ext 109 g109O o109
theorem o109O_ok : OrcOK Try.prog o109O := ext_ok o109_ok g109O_ok

/- fareboxref07.Neg -/
noncomputable def rNegP (q : (Nat → Int)) : (Nat → Int) := (L [((rNegO (sh 0 q)) 0), ((rNegO (sh 0 q)) 1), ((rNegO (sh 0 q)) 2), ((rNegO (sh 0 q)) 3), ((rNegO (sh 0 q)) 4), ((rNegO (sh 0 q)) 5), ((rNegO (sh 0 q)) 6), ((rNegO (sh 0 q)) 7), ((rNegO (sh 0 q)) 8), ((rNegO (sh 0 q)) 9), (q 10), (q 11), (q 12), (q 13), (q 14), (q 15), (q 16), (q 17), (q 18), (q 19), (q 20), (q 21), (q 22), (q 23), (q 24), (q 25), (q 26), (q 27), (q 28), (q 29)])
theorem rNegP_t (q : (Nat → Int)) : awp Try.prog o109O noG 300 (body Try.f110) (ends Try.prog Try.f110 fun v _ => okV (V.ints .u64 30 (rNegP q)) v) ⟨[(V.ints .u64 30 q)] ++ List.replicate 10 V.un, []⟩ = ((V.ints .u64 30 (rNegP q)).den z0 = (V.ints .u64 30 (rNegP q)).den z0) := by kernel_rfl
theorem rNegP_a (q : (Nat → Int)) : awp Try.prog o109O noG 300 (body Try.f110) (ends Try.prog Try.f110 fun v _ => okV (V.ints .u64 30 (rNegP q)) v) ⟨[(V.ints .u64 30 q)] ++ List.replicate 10 V.un, []⟩ := by rw [rNegP_t]
noncomputable def g110 : List V → Option (Bool × V) := fun | [.ints .u64 30 q] => some (true, (V.ints .u64 30 (rNegP q))) | _ => none
theorem rNegP_p (q : (Nat → Int)) : (∀ μ μ', V.den μ' (V.ints .u64 30 (rNegP q)) = V.den μ (V.ints .u64 30 (rNegP q))) ∧ ∀ μ w, PureAt Try.prog 110 (([(V.ints .u64 30 q)] : List V).map (V.den μ)).toArray (V.den μ (V.ints .u64 30 (rNegP q))) w :=
  pure_ok (F := o109O) (N := 300) (fn := Try.f110) (args := [(V.ints .u64 30 q)]) (r := (V.ints .u64 30 (rNegP q))) (n := 10) hM o109O_ok (noG_ok _) Try.func110 (by kernel_rfl) (by kernel_rfl) (by kernel_rfl) (by kernel_rfl) (rNegP_a q) (by kernel_rfl)
theorem g110_ok (vs : List V) (v : V) (h : g110 vs = some (true, v)) : (∀ μ μ', v.den μ' = v.den μ) ∧ ∀ μ w, PureAt Try.prog 110 (vs.map (V.den μ)).toArray (v.den μ) w := by
  unfold g110 at h
  split at h
  · simp only [Option.some.injEq, Prod.mk.injEq, true_and] at h
    subst h
    exact rNegP_p _
  · simp at h
noncomputable def o110 : Orc := ext 110 g110 o109O
theorem o110_ok : OrcOK Try.prog o110 := ext_ok o109O_ok g110_ok

theorem rNegPO_ex : ∃ f : (Nat → Int) → (Nat → Int), f = rNegP := ⟨_, rfl⟩
/-- rNegP, by a name that is not unfolded. -/
noncomputable def rNegPO : (Nat → Int) → (Nat → Int) := Classical.choose rNegPO_ex
theorem rNegPO_eq : rNegPO = rNegP := Classical.choose_spec rNegPO_ex
noncomputable def g110O : List V → Option (Bool × V) := fun | [.ints .u64 30 q] => some (true, (V.ints .u64 30 (rNegPO q))) | _ => none
theorem g110O_ok (vs : List V) (v : V) (h : g110O vs = some (true, v)) : (∀ μ μ', v.den μ' = v.den μ) ∧ ∀ μ w, PureAt Try.prog 110 (vs.map (V.den μ)).toArray (v.den μ) w := by
  unfold g110O at h
  split at h
  · simp only [Option.some.injEq, Prod.mk.injEq, true_and] at h
    subst h
    rw [rNegPO_eq]
    exact rNegP_p _
  · simp at h
noncomputable def o110O : Orc := ext 110 g110O o110
theorem o110O_ok : OrcOK Try.prog o110O := ext_ok o110_ok g110O_ok

/- fareboxref07.Base -/
noncomputable def rBaseP : (Nat → Int) := (rAffineO (rAcrossO (rMulO (rSmallO 4) (rInvertO (rSmallO 5)))).1 (rMulO (rSmallO 4) (rInvertO (rSmallO 5))))
theorem rBaseP_t : awp Try.prog o110O noG 300 (body Try.f106) (ends Try.prog Try.f106 fun v _ => okV (V.ints .u64 30 rBaseP) v) ⟨[] ++ List.replicate 16 V.un, []⟩ = ((V.ints .u64 30 rBaseP).den z0 = (V.ints .u64 30 rBaseP).den z0) := by kernel_rfl
theorem rBaseP_a : awp Try.prog o110O noG 300 (body Try.f106) (ends Try.prog Try.f106 fun v _ => okV (V.ints .u64 30 rBaseP) v) ⟨[] ++ List.replicate 16 V.un, []⟩ := by rw [rBaseP_t]
noncomputable def g106 : List V → Option (Bool × V) := fun | [] => some (true, (V.ints .u64 30 rBaseP)) | _ => none
theorem rBaseP_p : (∀ μ μ', V.den μ' (V.ints .u64 30 rBaseP) = V.den μ (V.ints .u64 30 rBaseP)) ∧ ∀ μ w, PureAt Try.prog 106 (([] : List V).map (V.den μ)).toArray (V.den μ (V.ints .u64 30 rBaseP)) w :=
  pure_ok (F := o110O) (N := 300) (fn := Try.f106) (args := []) (r := (V.ints .u64 30 rBaseP)) (n := 16) hM o110O_ok (noG_ok _) Try.func106 (by kernel_rfl) (by kernel_rfl) (by kernel_rfl) (by kernel_rfl) (rBaseP_a) (by kernel_rfl)
theorem g106_ok (vs : List V) (v : V) (h : g106 vs = some (true, v)) : (∀ μ μ', v.den μ' = v.den μ) ∧ ∀ μ w, PureAt Try.prog 106 (vs.map (V.den μ)).toArray (v.den μ) w := by
  unfold g106 at h
  split at h
  · simp only [Option.some.injEq, Prod.mk.injEq, true_and] at h
    subst h
    exact rBaseP_p
  · simp at h
noncomputable def o106 : Orc := ext 106 g106 o110O
theorem o106_ok : OrcOK Try.prog o106 := ext_ok o110O_ok g106_ok

theorem rBasePO_ex : ∃ f : (Nat → Int), f = rBaseP := ⟨_, rfl⟩
/-- rBaseP, by a name that is not unfolded. -/
noncomputable def rBasePO : (Nat → Int) := Classical.choose rBasePO_ex
theorem rBasePO_eq : rBasePO = rBaseP := Classical.choose_spec rBasePO_ex
noncomputable def g106O : List V → Option (Bool × V) := fun | [] => some (true, (V.ints .u64 30 rBasePO)) | _ => none
theorem g106O_ok (vs : List V) (v : V) (h : g106O vs = some (true, v)) : (∀ μ μ', v.den μ' = v.den μ) ∧ ∀ μ w, PureAt Try.prog 106 (vs.map (V.den μ)).toArray (v.den μ) w := by
  unfold g106O at h
  split at h
  · simp only [Option.some.injEq, Prod.mk.injEq, true_and] at h
    subst h
    rw [rBasePO_eq]
    exact rBaseP_p
  · simp at h
noncomputable def o106O : Orc := ext 106 g106O o106
theorem o106O_ok : OrcOK Try.prog o106O := ext_ok o106_ok g106O_ok

/- fareboxref07.Small -/
noncomputable def rSmallP (q : (Nat → Int)) : Bool := (rEqualPO (rDoublePO (rDoublePO (rDoublePO q))) rZeroPO)
theorem rSmallP_t (q : (Nat → Int)) : awp Try.prog o106O noG 300 (body Try.f114) (ends Try.prog Try.f114 fun v _ => okV (V.bool (rSmallP q)) v) ⟨[(V.ints .u64 30 q)] ++ List.replicate 8 V.un, []⟩ = ((V.bool (rSmallP q)).den z0 = (V.bool (rSmallP q)).den z0) := by kernel_rfl
theorem rSmallP_a (q : (Nat → Int)) : awp Try.prog o106O noG 300 (body Try.f114) (ends Try.prog Try.f114 fun v _ => okV (V.bool (rSmallP q)) v) ⟨[(V.ints .u64 30 q)] ++ List.replicate 8 V.un, []⟩ := by rw [rSmallP_t]
noncomputable def g114 : List V → Option (Bool × V) := fun | [.ints .u64 30 q] => some (true, (V.bool (rSmallP q))) | _ => none
theorem rSmallP_p (q : (Nat → Int)) : (∀ μ μ', V.den μ' (V.bool (rSmallP q)) = V.den μ (V.bool (rSmallP q))) ∧ ∀ μ w, PureAt Try.prog 114 (([(V.ints .u64 30 q)] : List V).map (V.den μ)).toArray (V.den μ (V.bool (rSmallP q))) w :=
  pure_ok (F := o106O) (N := 300) (fn := Try.f114) (args := [(V.ints .u64 30 q)]) (r := (V.bool (rSmallP q))) (n := 8) hM o106O_ok (noG_ok _) Try.func114 (by kernel_rfl) (by kernel_rfl) (by kernel_rfl) (by kernel_rfl) (rSmallP_a q) (by kernel_rfl)
theorem g114_ok (vs : List V) (v : V) (h : g114 vs = some (true, v)) : (∀ μ μ', v.den μ' = v.den μ) ∧ ∀ μ w, PureAt Try.prog 114 (vs.map (V.den μ)).toArray (v.den μ) w := by
  unfold g114 at h
  split at h
  · simp only [Option.some.injEq, Prod.mk.injEq, true_and] at h
    subst h
    exact rSmallP_p _
  · simp at h
noncomputable def o114 : Orc := ext 114 g114 o106O
theorem o114_ok : OrcOK Try.prog o114 := ext_ok o106O_ok g114_ok

theorem rSmallPO_ex : ∃ f : (Nat → Int) → Bool, f = rSmallP := ⟨_, rfl⟩
/-- rSmallP, by a name that is not unfolded. -/
noncomputable def rSmallPO : (Nat → Int) → Bool := Classical.choose rSmallPO_ex
theorem rSmallPO_eq : rSmallPO = rSmallP := Classical.choose_spec rSmallPO_ex
noncomputable def g114O : List V → Option (Bool × V) := fun | [.ints .u64 30 q] => some (true, (V.bool (rSmallPO q))) | _ => none
theorem g114O_ok (vs : List V) (v : V) (h : g114O vs = some (true, v)) : (∀ μ μ', v.den μ' = v.den μ) ∧ ∀ μ w, PureAt Try.prog 114 (vs.map (V.den μ)).toArray (v.den μ) w := by
  unfold g114O at h
  split at h
  · simp only [Option.some.injEq, Prod.mk.injEq, true_and] at h
    subst h
    rw [rSmallPO_eq]
    exact rSmallP_p _
  · simp at h
noncomputable def o114O : Orc := ext 114 g114O o114
theorem o114O_ok : OrcOK Try.prog o114O := ext_ok o114_ok g114O_ok

/- fareboxref07.Encode -/
noncomputable def rEncodeP (q : (Nat → Int)) : (Nat → Int) := (cond (rIsOddO (rMulO (sh 0 q) (rInvertO (sh 20 q)))) (up 31 (addI .u8 ((rBytesO (rMulO (sh 10 q) (rInvertO (sh 20 q)))) 31) 128) (rBytesO (rMulO (sh 10 q) (rInvertO (sh 20 q))))) (rBytesO (rMulO (sh 10 q) (rInvertO (sh 20 q)))))
theorem rEncodeP_t (q : (Nat → Int)) : awp Try.prog o114O noG 300 (body Try.f115) (ends Try.prog Try.f115 fun v _ => okV (V.ints .u8 32 (rEncodeP q)) v) ⟨[(V.ints .u64 30 q)] ++ List.replicate 22 V.un, []⟩ = (mB (rIsOddO (rMulO (sh 0 q) (rInvertO (sh 20 q)))) ((V.ints .u8 32 (up 31 (addI .u8 ((rBytesO (rMulO (sh 10 q) (rInvertO (sh 20 q)))) 31) 128) (rBytesO (rMulO (sh 10 q) (rInvertO (sh 20 q)))))).den z0 = (V.ints .u8 32 (rEncodeP q)).den z0) ((V.ints .u8 32 (rBytesO (rMulO (sh 10 q) (rInvertO (sh 20 q))))).den z0 = (V.ints .u8 32 (rEncodeP q)).den z0)) := by kernel_rfl
theorem rEncodeP_a (q : (Nat → Int)) : awp Try.prog o114O noG 300 (body Try.f115) (ends Try.prog Try.f115 fun v _ => okV (V.ints .u8 32 (rEncodeP q)) v) ⟨[(V.ints .u64 30 q)] ++ List.replicate 22 V.un, []⟩ := by
  rw [rEncodeP_t]
  refine mBt (fun h1 => ?_) (fun h1 => ?_)
  · simp only [rEncodeP, h1, cond_true]
  · simp only [rEncodeP, h1, cond_false]
noncomputable def g115 : List V → Option (Bool × V) := fun | [.ints .u64 30 q] => some (true, (V.ints .u8 32 (rEncodeP q))) | _ => none
theorem rEncodeP_p (q : (Nat → Int)) : (∀ μ μ', V.den μ' (V.ints .u8 32 (rEncodeP q)) = V.den μ (V.ints .u8 32 (rEncodeP q))) ∧ ∀ μ w, PureAt Try.prog 115 (([(V.ints .u64 30 q)] : List V).map (V.den μ)).toArray (V.den μ (V.ints .u8 32 (rEncodeP q))) w :=
  pure_ok (F := o114O) (N := 300) (fn := Try.f115) (args := [(V.ints .u64 30 q)]) (r := (V.ints .u8 32 (rEncodeP q))) (n := 22) hM o114O_ok (noG_ok _) Try.func115 (by kernel_rfl) (by kernel_rfl) (by kernel_rfl) (by kernel_rfl) (rEncodeP_a q) (by kernel_rfl)
theorem g115_ok (vs : List V) (v : V) (h : g115 vs = some (true, v)) : (∀ μ μ', v.den μ' = v.den μ) ∧ ∀ μ w, PureAt Try.prog 115 (vs.map (V.den μ)).toArray (v.den μ) w := by
  unfold g115 at h
  split at h
  · simp only [Option.some.injEq, Prod.mk.injEq, true_and] at h
    subst h
    exact rEncodeP_p _
  · simp at h
noncomputable def o115 : Orc := ext 115 g115 o114O
theorem o115_ok : OrcOK Try.prog o115 := ext_ok o114O_ok g115_ok

theorem rEncodePO_ex : ∃ f : (Nat → Int) → (Nat → Int), f = rEncodeP := ⟨_, rfl⟩
/-- rEncodeP, by a name that is not unfolded. -/
noncomputable def rEncodePO : (Nat → Int) → (Nat → Int) := Classical.choose rEncodePO_ex
theorem rEncodePO_eq : rEncodePO = rEncodeP := Classical.choose_spec rEncodePO_ex
noncomputable def g115O : List V → Option (Bool × V) := fun | [.ints .u64 30 q] => some (true, (V.ints .u8 32 (rEncodePO q))) | _ => none
theorem g115O_ok (vs : List V) (v : V) (h : g115O vs = some (true, v)) : (∀ μ μ', v.den μ' = v.den μ) ∧ ∀ μ w, PureAt Try.prog 115 (vs.map (V.den μ)).toArray (v.den μ) w := by
  unfold g115O at h
  split at h
  · simp only [Option.some.injEq, Prod.mk.injEq, true_and] at h
    subst h
    rw [rEncodePO_eq]
    exact rEncodeP_p _
  · simp at h
noncomputable def o115O : Orc := ext 115 g115O o115
theorem o115O_ok : OrcOK Try.prog o115O := ext_ok o115_ok g115O_ok
end Go.Proofs.Ytbnclikjbnfodaa

/-
  The document's points: sums, doubles, multiples, tellings. Conditions: none.
-/
namespace Go.Proofs.Ytbnclikjbnfodaa
set_option maxRecDepth 100000
open Go.Ev Go.Num
theorem rAdd_rm {q r : Nat → Int} {A B : Pn} (hq : Rm q A) (hr : Rm r B) : Rm (rAddPO q r) (A.add B) := by
  obtain ⟨z, hz, x1, y1, z1⟩ := hq
  obtain ⟨w, hw, x2, y2, z2⟩ := hr
  have ax := add_x A B
  have ay := add_y A B
  obtain ⟨n1, n2⟩ := full A.on B.on
  rw [rAddPO_eq]
  have ja := mulJ z1 z2
  have jb := mulJ ja ja
  have jc := mulJ x1 x2
  have jd := mulJ y1 y2
  have je := mulJ DJ (mulJ jc jd)
  have jf := subJ jb je
  have jg := addJ jb je
  have jcr := addJ (mulJ x1 y2) (mulJ y1 x2)
  have X := mulJ (mulJ ja jf) jcr
  have Y := mulJ (mulJ ja jg) (addJ jd jc)
  have Z := mulJ jf jg
  have ef : z * w * (z * w) - D * (A.x * z * (B.x * w) * (A.y * z * (B.y * w))) = (z * w * (z * w)) * (1 - D * A.x * B.x * A.y * B.y) := by
    generalize D = d
    clear ax ay n1 n2 ja jb jc jd je jf jg jcr X Y Z x1 y1 z1 x2 y2 z2
    grind -lia
  have eg : z * w * (z * w) + D * (A.x * z * (B.x * w) * (A.y * z * (B.y * w))) = (z * w * (z * w)) * (1 + D * A.x * B.x * A.y * B.y) := by
    generalize D = d
    clear ax ay n1 n2 ja jb jc jd je jf jg jcr X Y Z x1 y1 z1 x2 y2 z2 ef
    grind -lia
  refine ⟨_, ?_, X.as (tenn rfl rfl rfl rfl rfl rfl rfl rfl rfl rfl) ?_, Y.as (tenn rfl rfl rfl rfl rfl rfl rfl rfl rfl rfl) ?_, Z.congr (tenn rfl rfl rfl rfl rfl rfl rfl rfl rfl rfl)⟩
  · rw [ef, eg]
    exact k_mul_ne (k_mul_ne (k_mul_ne (k_mul_ne hz hw) (k_mul_ne hz hw)) n2) (k_mul_ne (k_mul_ne (k_mul_ne hz hw) (k_mul_ne hz hw)) n1)
  all_goals
    rw [ef, eg]
    generalize (A.add B).x = X' at *
    generalize (A.add B).y = Y' at *
    generalize D * A.x * B.x * A.y * B.y = e at *
    clear n1 n2 ja jb jc jd je jf jg jcr X Y Z x1 y1 z1 x2 y2 z2 ef eg hz hw
    generalize A.x = a at *
    generalize A.y = b at *
    generalize B.x = a' at *
    generalize B.y = b' at *
    clear A B q r
  · have e1 : a * z * (b' * w) + b * z * (a' * w) = (z * w) * (a * b' + a' * b) := by clear ax ay; grind -lia
    rw [e1, ← ax]
    clear ax ay e1
    grind -lia
  · have e1 : b * z * (b' * w) + a * z * (a' * w) = (z * w) * (b * b' + a * a') := by clear ax ay; grind -lia
    rw [e1, ← ay]
    clear ax ay e1
    grind -lia
theorem rDouble_rm {q : Nat → Int} {A : Pn} (hq : Rm q A) : Rm (rDoublePO q) (A.add A) := by
  obtain ⟨z, hz, x1, y1, z1⟩ := hq
  have ax := add_x A A
  have ay := add_y A A
  have on := A.on
  unfold OnK at on
  obtain ⟨n1, n2⟩ := full A.on A.on
  rw [rDoublePO_eq]
  have jxx := mulJ x1 x1
  have jyy := mulJ y1 y1
  have jzz := mulJ z1 z1
  have jl := subJ jyy jxx
  have jm := subJ (addJ jzz jzz) jl
  have jxy := mulJ x1 y1
  have X := mulJ (addJ jxy jxy) jm
  have Y := mulJ (addJ jxx jyy) jl
  have Z := mulJ jl jm
  have el : A.y * z * (A.y * z) - A.x * z * (A.x * z) = (1 + D * A.x * A.x * A.y * A.y) * (z * z) := by
    generalize D = d at *
    clear ax ay n1 n2 jxx jyy jzz jl jm jxy X Y Z x1 y1 z1
    grind -lia
  have em : z * z + z * z - (A.y * z * (A.y * z) - A.x * z * (A.x * z)) = (1 - D * A.x * A.x * A.y * A.y) * (z * z) := by
    rw [el]
    generalize D * A.x * A.x * A.y * A.y = e at *
    clear on ax ay n1 n2 jxx jyy jzz jl jm jxy X Y Z x1 y1 z1 el
    grind -lia
  have exy : A.x * z * (A.y * z) + A.x * z * (A.y * z) = (A.x * A.y + A.x * A.y) * (z * z) := by
    clear on ax ay n1 n2 jxx jyy jzz jl jm jxy X Y Z x1 y1 z1 el em
    grind -lia
  have eh : A.x * z * (A.x * z) + A.y * z * (A.y * z) = (A.y * A.y + A.x * A.x) * (z * z) := by
    clear on ax ay n1 n2 jxx jyy jzz jl jm jxy X Y Z x1 y1 z1 el em exy
    grind -lia
  refine ⟨_, ?_, X.as (tenn rfl rfl rfl rfl rfl rfl rfl rfl rfl rfl) ?_, Y.as (tenn rfl rfl rfl rfl rfl rfl rfl rfl rfl rfl) ?_, Z.congr (tenn rfl rfl rfl rfl rfl rfl rfl rfl rfl rfl)⟩
  · rw [em, el]
    exact k_mul_ne (k_mul_ne n1 (k_mul_ne hz hz)) (k_mul_ne n2 (k_mul_ne hz hz))
  · rw [exy, em, el, ← ax]
    generalize (A.add A).x = X' at *
    generalize D * A.x * A.x * A.y * A.y = e at *
    clear on ax ay n1 n2 jxx jyy jzz jl jm jxy X Y Z x1 y1 z1 el em exy eh hz
    grind -lia
  · rw [eh, em, el, ← ay]
    generalize (A.add A).y = Y' at *
    generalize D * A.x * A.x * A.y * A.y = e at *
    clear on ax ay n1 n2 jxx jyy jzz jl jm jxy X Y Z x1 y1 z1 el em exy eh hz
    grind -lia
theorem rNeg_rm {q : Nat → Int} {A : Pn} (hq : Rm q A) : Rm (rNegPO q) A.neg := by
  obtain ⟨z, hz, x1, y1, z1⟩ := hq
  rw [rNegPO_eq]
  have nx := negJ x1
  refine ⟨z, hz, nx.as (tenn rfl rfl rfl rfl rfl rfl rfl rfl rfl rfl) ?_, y1.congr (tenn rfl rfl rfl rfl rfl rfl rfl rfl rfl rfl), z1.congr (tenn rfl rfl rfl rfl rfl rfl rfl rfl rfl rfl)⟩
  show -(A.x * z) = -A.x * z
  clear nx x1 y1 z1; grind -lia
theorem oneJ : Jk (rSmallO 1) 1 := by have := smallJ 1 (by omega) (by omega); rwa [kk_1] at this
theorem nilJ : Jk (rSmallO 0) 0 := by have := smallJ 0 (by omega) (by omega); rwa [kk_0] at this
theorem rZero_rm : Rm rZeroPO .zero := by
  rw [rZeroPO_eq]
  refine ⟨1, by decide, nilJ.as (tenn rfl rfl rfl rfl rfl rfl rfl rfl rfl rfl) ?_, oneJ.as (tenn rfl rfl rfl rfl rfl rfl rfl rfl rfl rfl) ?_, oneJ.congr (tenn rfl rfl rfl rfl rfl rfl rfl rfl rfl rfl)⟩
  · show (0 : K) = 0 * 1; decide
  · show (1 : K) = 1 * 1; decide
theorem rBase_rm : Rm rBasePO Bp := by
  rw [rBasePO_eq]
  unfold rBaseP
  have four := smallJ 4 (by omega) (by omega)
  have five := smallJ 5 (by omega) (by omega)
  have h5 : kk 5 ≠ 0 := by decide
  have hy : Jk (rMulO (rSmallO 4) (rInvertO (rSmallO 5))) Bp.y := (mulJ four (invJ five)).to (by
    refine k_cancel h5 ?_
    rw [div_mul h5]
    show kk 4 = kk _ * kk 5
    rw [← kk_mul, kk_iff]; decide)
  rcases acrossJ hy with ⟨k, h1, h2, h3, h4⟩ | ⟨h1, h2⟩
  · have on : OnK k Bp.y := on_iff.2 h3
    have par : (Bp.x.val : Int) % 2 = 0 := by
      show ((kk _).val : Int) % 2 = 0
      rw [kk_val]; decide
    have e : k = Bp.x := x_of on Bp.on (by rw [h4, par])
    have r := affine_rm h2 hy on
    rwa [show (⟨k, Bp.y, on⟩ : Pn) = Bp from Pn.ext' e rfl] at r
  · exact absurd (on_iff.1 Bp.on) (h2 _)
theorem rSmall_iff {q : Nat → Int} {A : Pn} (hq : Rm q A) : rSmallPO q = true ↔ smu 8 A = .zero := by
  rw [rSmallPO_eq]
  unfold rSmallP
  have h2 := rDouble_rm hq
  have h4 := rDouble_rm h2
  have h8 := rDouble_rm h4
  rw [rEqual_iff h8 rZero_rm]
  have e : ((A.add A).add (A.add A)).add ((A.add A).add (A.add A)) = smu 8 A := by
    have : A.add A = smu 2 A := by rw [show smu 2 A = (smu 1 A).add A from rfl, smu_one]
    rw [this, smu_two, smu_two]
  rw [e]
theorem rEnc {q : Nat → Int} {A : Pn} (hq : Rm q A) : B32 (rEncodePO q) ∧ vb (rEncodePO q) = en A := by
  obtain ⟨z, hz, x1, y1, z1⟩ := hq
  have hw := ki_mul hz
  have xx : Jk (rMulO (sh 0 q) (rInvertO (sh 20 q))) A.x := (mulJ x1 (invJ z1)).to (by
    clear x1 y1 z1; generalize ki z = w at *; grind -lia)
  have yy : Jk (rMulO (sh 10 q) (rInvertO (sh 20 q))) A.y := (mulJ y1 (invJ z1)).to (by
    clear x1 y1 z1 xx; generalize ki z = w at *; grind -lia)
  rw [rEncodePO_eq]
  unfold rEncodeP en
  obtain ⟨bB, bv⟩ := bytesJ yy
  have top := vb_top bB
  have hy := A.y.isLt
  have b31 := bB 31 (by omega)
  generalize rBytesO (rMulO (sh 10 q) (rInvertO (sh 20 q))) = c at *
  rw [isOddJ xx]
  by_cases h : A.x.val % 2 = 1
  · rw [decide_eq_true h, cond_true]
    have hlt : c 31 < 128 := by omega
    have e : addI .u8 (c 31) 128 = c 31 + 128 := by unfold addI; rw [wrap_u8]; omega
    rw [e]
    obtain ⟨u1, u2⟩ := vb_up bB (c := c 31 + 128) (by omega)
    exact ⟨u1, by omega⟩
  · rw [decide_eq_false h, cond_false]
    exact ⟨bB, by omega⟩
/-- Of any limbs: the program's OnCurve is the document's. -/
theorem on_same {q : Nat → Int} (hu : U20 q) : onPO q = rOnPO q := by
  obtain ⟨u0, u5, u10, u15⟩ := hu
  have x1 : Ik (sh 0 q) _ := ⟨u0, rfl⟩
  have y1 : Ik (sh 5 q) _ := ⟨u5, rfl⟩
  have z1 : Ik (sh 10 q) _ := ⟨u10, rfl⟩
  have t1 : Ik (sh 15 q) _ := ⟨u15, rfl⟩
  generalize kk (v5 (sh 0 q)) = X at x1
  generalize kk (v5 (sh 5 q)) = Y at y1
  generalize kk (v5 (sh 10 q)) = Z at z1
  generalize kk (v5 (sh 15 q)) = T at t1
  have x2 := ofJ x1; have y2 := ofJ y1; have z2 := ofJ z1; have t2 := ofJ t1
  rw [onPO_eq, rOnPO_eq]
  unfold onP rOnP
  rw [isZeroE z1, equalE (mulE2 x1 y1) (mulE2 z1 t1), equalE (subE (sqE y1) (sqE x1)) (addE (sqE z1) (mulE2 numberE (sqE t1))), isZeroJ z2, eqJ (mulJ x2 y2) (mulJ z2 t2), eqJ (subJ (mulJ y2 y2) (mulJ x2 x2)) (addJ (mulJ z2 z2) (mulJ DJ (mulJ t2 t2)))]
  cases decide (Z = 0) <;> cases decide (X * Y = Z * T) <;> rfl
end Go.Proofs.Ytbnclikjbnfodaa

/-
  Short forms; points that agree on their cells. Conditions: none.
-/
namespace Go.Proofs.Ytbnclikjbnfodaa
open Go.Ev Go.Num
theorem hide_ex {α : Type} (a : α) : ∃ f : α, f = a := ⟨a, rfl⟩
theorem both {a b : Bool} (ha : a = true) (hb : b = true) : (a && b) = true := by rw [ha, hb]; rfl
theorem mBy {c : Bool} {A B : Prop} (h : c = true) (k : A) : mB c A B := mBt (fun _ => k) (fun e => by rw [h] at e; cases e)
theorem mBn {c : Bool} {A B : Prop} (h : c = false) (k : B) : mB c A B := mBt (fun e => by rw [h] at e; cases e) (fun _ => k)
theorem gB_t {b : Bool} {A : Prop} (h : gB b A) : b = true ∧ A := by cases b <;> simp_all [gB]
theorem mB_t {b : Bool} {A B : Prop} (h : mB b A B) : (b = true → A) ∧ (b = false → B) := by cases b <;> simp_all [mB]
theorem okV_bool {a b : Bool} (h : b = a) : okV (V.bool a) (V.bool b) := by rw [h]; exact okV_refl rfl
theorem up_same {α : Type} (i : Nat) (x : α) (f : Nat → α) : up i x f i = x := by rw [up_at, if_pos rfl]
theorem up_ne {α : Type} {i j : Nat} (x : α) (f : Nat → α) (h : j ≠ i) : up i x f j = f j := by rw [up_at, if_neg h]
def vI (n : Int) : V := .int .i64 n
def vP (i : Nat) : V := .ptr i 0
def vT : V := .bool true
def vS (i n c : Nat) : V := .sl i 0 n c
def vB (n : Nat) (f : Nat → Bool) : V := .bools n f
abbrev nG : GOrc := noG
theorem nG_ok : GOrcOK Try.prog nG := noG_ok _
theorem Rm.congr {q r : Nat → Int} {A : Pn} (h : Rm q A) (e : ∀ j, j < 30 → r j = q j) : Rm r A := by
  obtain ⟨z, hz, x1, y1, z1⟩ := h
  exact ⟨z, hz, x1.congr fun j hj => by rw [sh_at, sh_at]; exact e _ (by omega), y1.congr fun j hj => by rw [sh_at, sh_at]; exact e _ (by omega), z1.congr fun j hj => by rw [sh_at, sh_at]; exact e _ (by omega)⟩
theorem Rm.uniq {q : Nat → Int} {A B : Pn} (h : Rm q A) (h' : Rm q B) : A = B := (rEqual_iff h h').1 ((rEqual_iff h h).2 rfl)
theorem Fm.uniq {q : Nat → Int} {A B : Pn} (h : Fm q A) (h' : Fm q B) : A = B := (equalP_iff h h').1 ((equalP_iff h h).2 rfl)
/-- A row of points, one more written. -/
theorem row_put {l : Nat → Int} {r : Nat → Int} {N p : Nat} (hp : 30 * p + 30 ≤ N) : (∀ j, j < 30 → sh (30 * p) (spl (30 * p) 30 N r l) j = r j) ∧ ∀ i, i < p → ∀ j, j < 30 → sh (30 * i) (spl (30 * p) 30 N r l) j = sh (30 * i) l j := by
  constructor
  · intro j hj
    rw [sh_at, spl_at _ _ _ _ _ _ (by omega), if_pos (by omega)]
    congr 1; omega
  · intro i hi j hj
    rw [sh_at, sh_at, spl_at _ _ _ _ _ _ (by omega), if_neg (by omega)]
theorem byte_at {e : Nat → Int} (he : B32 e) {i : Nat} (hi : i < 32) : e i = vb e / 256 ^ i % 256 := by
  have b0 := vb_bound he
  refine dv_inj (B := 256) (n := 32) (by omega) he (b := fun j => vb e / 256 ^ j % 256) (fun j hj => by omega) ?_ _ (by omega)
  rw [dv_digits (by omega)]
  exact (Int.emod_eq_of_lt b0.1 (by rw [show (256 : Int) ^ 32 = 2 ^ 256 by decide]; exact b0.2)).symm
/-- The number's upper bytes: with one more. -/
def upB (e : Nat → Int) (p : Nat) : Nat := (vb e).toNat / 256 ^ (32 - p)
theorem upB_0 {e : Nat → Int} (he : B32 e) : upB e 0 = 0 := by
  unfold upB
  have b0 := vb_bound he
  refine Nat.div_eq_of_lt ?_
  have : (256 : Nat) ^ (32 - 0) = 2 ^ 256 := by decide
  rw [this]
  have h2 : ((2 : Int) ^ 256) = ((2 ^ 256 : Nat) : Int) := by decide
  omega
theorem upB_32 (e : Nat → Int) : upB e 32 = (vb e).toNat := by unfold upB; rw [Nat.sub_self, Nat.pow_zero, Nat.div_one]
theorem upB_succ {e : Nat → Int} (he : B32 e) {p : Nat} (hp : p < 32) : upB e (p + 1) = 16 * (16 * upB e p + (e (31 - p)).toNat / 16) + (e (31 - p)).toNat % 16 ∧ 0 ≤ e (31 - p) ∧ e (31 - p) < 256 := by
  have b0 := vb_bound he
  have d := byte_at he (i := 31 - p) (by omega)
  have bb := he (31 - p) (by omega)
  refine ⟨?_, bb⟩
  unfold upB
  have e1 : 32 - p = (31 - p) + 1 := by omega
  have e2 : 32 - (p + 1) = 31 - p := by omega
  rw [e1, e2, Nat.pow_succ, ← Nat.div_div_eq_div_mul]
  have d2 : (e (31 - p)).toNat = (vb e).toNat / 256 ^ (31 - p) % 256 := by
    obtain ⟨n, hn⟩ := Int.eq_ofNat_of_zero_le b0.1
    rw [d, hn, Int.toNat_natCast]
    have : ((n : Int) / 256 ^ (31 - p) % 256) = ((n / 256 ^ (31 - p) % 256 : Nat) : Int) := by
      simp [Int.natCast_ediv, Int.natCast_emod, Int.natCast_pow]
    rw [this, Int.toNat_natCast]
  rw [d2]
  generalize (vb e).toNat / 256 ^ (31 - p) = M
  omega
theorem dbl4 {q : Nat → Int} {n : Nat} {A : Pn} (h : Rm q (smu n A)) : Rm (rDoublePO (rDoublePO (rDoublePO (rDoublePO q)))) (smu (16 * n) A) := by
  have h2 := rDouble_rm h
  rw [smu_two] at h2
  have h4 := rDouble_rm h2
  rw [smu_two] at h4
  have h8 := rDouble_rm h4
  rw [smu_two] at h8
  have h16 := rDouble_rm h8
  rw [smu_two] at h16
  rwa [show 2 * (2 * (2 * (2 * n))) = 16 * n by omega] at h16
end Go.Proofs.Ytbnclikjbnfodaa

/-
  upTo15: a contract. Conditions: none.
-/
namespace Go.Proofs.Ytbnclikjbnfodaa
open Go.Ev Go.Num
set_option linter.unusedVariables false
set_option linter.unusedSimpArgs false
abbrev upK (A : Pn) : V → List V → Prop := out0 (fun v => ∃ h, v = .ints .u64 480 h ∧ ∀ j, j < 16 → Rm (sh (30 * j) h) (smu j A)) (fun _ _ => False)
abbrev upt_Ka4 (A : Pn) : List V → List V → Prop := OkL Try.prog 0 20 [2, 3] (dropC 3 (body Try.f121)) (ends Try.prog Try.f121 ((upK A)))
abbrev upt_Klh (A : Pn) (w1 : Nat) : List V → List V → Prop := OkH Try.prog 0 20 [1, 2, 3, 4] (lopC (blkC (dropC 0 (takeC 0 (dropC 2 (body Try.f121)))))) (blkQ 0 (segQ 20 [2, 3] (upt_Ka4 A) (ends Try.prog Try.f121 ((upK A))))) w1
abbrev upt_Kl2 (A : Pn) (w1 : Nat) : List V → List V → Prop := OkL Try.prog 0 20 [1, 2, 3, 4] (dropC 1 (lopC (blkC (dropC 0 (takeC 0 (dropC 2 (body Try.f121))))))) (segQ 20 [1, 2, 3, 4] (upt_Klh A w1) (blkQ 0 (segQ 20 [2, 3] (upt_Ka4 A) (ends Try.prog Try.f121 ((upK A))))))
theorem upt_z_s (A : Pn) (q : Nat → Int) (l : Nat → Int) (T : List V) : awq Try.prog o115O nG 0 1200 (dropC 3 (body Try.f121)) (ends Try.prog Try.f121 ((upK A))) ⟨ovr 20 [2, 3] [(vP 0), (vP 1)] T, [(V.ints .u64 480 (fun _ => 0)), (V.ints .u64 480 l)]⟩ = ((upK A) (V.ints .u64 480 (sh 0 (spl 0 480 480 (sh 0 l) (fun _ => 0)))) [(V.ints .u64 480 (spl 0 480 480 (sh 0 l) (fun _ => 0))), (V.ints .u64 480 l)]) := by kernel_rfl
theorem upt_z (A : Pn) (q : Nat → Int) (l : Nat → Int) (hE : ∀ j, j < 16 → Rm (sh (30 * j) l) (smu j A)) : (upt_Ka4 A) [(vP 0), (vP 1)] [(V.ints .u64 480 (fun _ => 0)), (V.ints .u64 480 l)] := by
  exact okl_all hM o115O_ok nG_ok (N := 1200) (fun T => Eq.mpr (upt_z_s A q l T ) (.inl ⟨_, rfl, hE⟩))
theorem upt_l_s (A : Pn) (q : Nat → Int) (i : Int) (l : Nat → Int) (T : List V) (k0 k1 : List V → List V → Prop) : awq Try.prog o115O nG 0 1200 (dropC 1 (lopC (blkC (dropC 0 (takeC 0 (dropC 2 (body Try.f121))))))) (segQ 20 [1, 2, 3, 4] k0 (blkQ 0 (segQ 20 [2, 3] k1 (ends Try.prog Try.f121 ((upK A)))))) ⟨ovr 20 [1, 2, 3, 4] [(vP 0), (vP 1), (vP 2), (vI i)] T, [(V.ints .u64 30 q), (V.ints .u64 480 (fun _ => 0)), (V.ints .u64 480 l)]⟩ = (k0 [(vP 0), (vP 1), (vP 2), (vI (addI .i64 i 1))] [(V.ints .u64 30 q), (V.ints .u64 480 (fun _ => 0)), (V.ints .u64 480 l)]) := by kernel_rfl
theorem upt_l (w1 : Nat) (A : Pn) (q : Nat → Int) (i : Int) (l : Nat → Int) (p : Nat) (hE : ∀ j, j < p + 1 → Rm (sh (30 * j) l) (smu j A)) (IH : ∀ (l : Nat → Int), (∀ j, j < p + 1 → Rm (sh (30 * j) l) (smu j A)) → (upt_Klh A w1) [(vP 0), (vP 1), (vP 2), (vI (addI .i64 i 1))] [(V.ints .u64 30 q), (V.ints .u64 480 (fun _ => 0)), (V.ints .u64 480 l)]) : (upt_Kl2 A w1) [(vP 0), (vP 1), (vP 2), (vI i)] [(V.ints .u64 30 q), (V.ints .u64 480 (fun _ => 0)), (V.ints .u64 480 l)] := by
  exact okl_all hM o115O_ok nG_ok (N := 1200) (fun T => Eq.mpr (upt_l_s A q i l T (upt_Klh A w1) (upt_Ka4 A)) (IH l hE))
theorem upt_c_s (A : Pn) (q : Nat → Int) (i : Int) (l : Nat → Int) (T : List V) (k0 k1 k2 : List V → List V → Prop) : awq Try.prog o115O nG 0 1200 (blkC (takeC 0 (dropC 0 (lopC (blkC (dropC 0 (takeC 0 (dropC 2 (body Try.f121))))))))) (blkQ 1 (segQ 20 [1, 2, 3, 4] k0 (segQ 20 [1, 2, 3, 4] k1 (blkQ 0 (segQ 20 [2, 3] k2 (ends Try.prog Try.f121 ((upK A)))))))) ⟨ovr 20 [1, 2, 3, 4] [(vP 0), (vP 1), (vP 2), (vI i)] T, [(V.ints .u64 30 q), (V.ints .u64 480 (fun _ => 0)), (V.ints .u64 480 l)]⟩ = (gB (decide (0 ≤ (subI .i64 i 1) ∧ (subI .i64 i 1) < 16)) (gB (Nat.ble ((0 + (Int.toNat (subI .i64 i 1) * 30)) + 30) 480) (gB (decide (0 ≤ i ∧ i < 16)) (gB (Nat.ble ((0 + (Int.toNat i * 30)) + 30) 480) (k0 [(vP 0), (vP 1), (vP 2), (vI i)] [(V.ints .u64 30 q), (V.ints .u64 480 (fun _ => 0)), (V.ints .u64 480 (spl (0 + (Int.toNat i * 30)) 30 480 (rAddPO (sh (0 + (Int.toNat (subI .i64 i 1) * 30)) l) (sh 0 q)) l))]))))) := by kernel_rfl
abbrev upt_Kc0 (A : Pn) (w1 : Nat) : List V → List V → Prop := OkL Try.prog 0 20 [1, 2, 3, 4] (blkC (takeC 0 (dropC 0 (lopC (blkC (dropC 0 (takeC 0 (dropC 2 (body Try.f121))))))))) (blkQ 1 (segQ 20 [1, 2, 3, 4] (upt_Kl2 A w1) (segQ 20 [1, 2, 3, 4] (upt_Klh A w1) (blkQ 0 (segQ 20 [2, 3] (upt_Ka4 A) (ends Try.prog Try.f121 ((upK A))))))))
theorem upt_c (w1 : Nat) (A : Pn) (q : Nat → Int) (i : Int) (l : Nat → Int) (hq : Rm q A) (p : Nat) (hi : i = (p : Int)) (h1 : 1 ≤ p) (hE : ∀ j, j < p → Rm (sh (30 * j) l) (smu j A)) (hp : p < 16) (IH : ∀ (l : Nat → Int), (∀ j, j < p + 1 → Rm (sh (30 * j) l) (smu j A)) → (upt_Klh A w1) [(vP 0), (vP 1), (vP 2), (vI (addI .i64 i 1))] [(V.ints .u64 30 q), (V.ints .u64 480 (fun _ => 0)), (V.ints .u64 480 l)]) : (upt_Kc0 A w1) [(vP 0), (vP 1), (vP 2), (vI i)] [(V.ints .u64 30 q), (V.ints .u64 480 (fun _ => 0)), (V.ints .u64 480 l)] := by
  have hs : subI .i64 i 1 = ((p - 1 : Nat) : Int) := by rw [hi]; exact (wrap_i64 _ (by omega)).trans (by omega)
  have hx : 0 + (Int.toNat i * 30) = 30 * p := by rw [hi, Int.toNat_natCast]; omega
  have hy : 0 + (Int.toNat (subI .i64 i 1) * 30) = 30 * (p - 1) := by rw [hs, Int.toNat_natCast]; omega
  have hst : ∀ j, j < p + 1 → Rm (sh (30 * j) (spl (0 + (Int.toNat i * 30)) 30 480 (rAddPO (sh (0 + (Int.toNat (subI .i64 i 1) * 30)) l) (sh 0 q)) l)) (smu j A) := fun j hj => by
    rw [hx, hy]
    have hput := row_put (l := l) (r := rAddPO (sh (30 * (p - 1)) l) (sh 0 q)) (N := 480) (p := p) (by omega)
    by_cases e : j = p
    · subst e
      have := rAdd_rm (hE (j - 1) (by omega)) hq
      rw [← smu_succ, show j - 1 + 1 = j by omega] at this
      exact this.congr hput.1
    · exact (hE j (by omega)).congr (hput.2 j (by omega))
  exact okl_all hM o115O_ok nG_ok (N := 1200) (fun T => Eq.mpr (upt_c_s A q i l T (upt_Kl2 A w1) (upt_Klh A w1) (upt_Ka4 A)) (gm (decide_eq_true (by omega)) (gm (bleT.2 (by omega)) (gm (decide_eq_true (by omega)) (gm (bleT.2 (by omega)) (upt_l w1 A q i (spl (0 + (Int.toNat i * 30)) 30 480 (rAddPO (sh (0 + (Int.toNat (subI .i64 i 1) * 30)) l) (sh 0 q)) l) p hst IH))))))
theorem upt_h_s (A : Pn) (q : Nat → Int) (i : Int) (l : Nat → Int) (T : List V) (kk k0 k1 : List V → List V → Prop) : awq Try.prog o115O nG 0 1200 (takeC 0 (lopC (blkC (dropC 0 (takeC 0 (dropC 2 (body Try.f121))))))) (segQ 20 [1, 2, 3, 4] kk (segQ 20 [1, 2, 3, 4] k0 (blkQ 0 (segQ 20 [2, 3] k1 (ends Try.prog Try.f121 ((upK A))))))) ⟨ovr 20 [1, 2, 3, 4] [(vP 0), (vP 1), (vP 2), (vI i)] T, [(V.ints .u64 30 q), (V.ints .u64 480 (fun _ => 0)), (V.ints .u64 480 l)]⟩ = (mB (decide (i < 16)) (kk [(vP 0), (vP 1), (vP 2), (vI i)] [(V.ints .u64 30 q), (V.ints .u64 480 (fun _ => 0)), (V.ints .u64 480 l)]) (k1 [(vP 1), (vP 2)] [(V.ints .u64 30 q), (V.ints .u64 480 (fun _ => 0)), (V.ints .u64 480 l)])) := by kernel_rfl
abbrev upt_Kl1 (A : Pn) (w1 : Nat) : List V → List V → Prop := OkL Try.prog 0 20 [1, 2, 3, 4] (dropC 0 (lopC (blkC (dropC 0 (takeC 0 (dropC 2 (body Try.f121))))))) (segQ 20 [1, 2, 3, 4] (upt_Klh A w1) (blkQ 0 (segQ 20 [2, 3] (upt_Ka4 A) (ends Try.prog Try.f121 ((upK A))))))
theorem upt_h (w1 : Nat) (A : Pn) (q : Nat → Int) (i : Int) (l : Nat → Int) (hq : Rm q A) (p : Nat) (hi : i = (p : Int)) (h1 : 1 ≤ p) (hE : ∀ j, j < p → Rm (sh (30 * j) l) (smu j A)) (hp : p ≤ 16) (IHH : p < 16 → ∀ (l : Nat → Int), (∀ j, j < p + 1 → Rm (sh (30 * j) l) (smu j A)) → (upt_Klh A w1) [(vP 0), (vP 1), (vP 2), (vI (addI .i64 i 1))] [(V.ints .u64 30 q), (V.ints .u64 480 (fun _ => 0)), (V.ints .u64 480 l)]) : (upt_Klh A (w1 + 1)) [(vP 0), (vP 1), (vP 2), (vI i)] [(V.ints .u64 30 q), (V.ints .u64 480 (fun _ => 0)), (V.ints .u64 480 l)] := by
  exact okh_round (okl_seg hM o115O_ok nG_ok (N := 1200) 0 (by kernel_rfl) (show dropC 0 (lopC (blkC (dropC 0 (takeC 0 (dropC 2 (body Try.f121)))))) = (dropC 0 (lopC (blkC (dropC 0 (takeC 0 (dropC 2 (body Try.f121))))))) by kernel_rfl)  (fun T => Eq.mpr (upt_h_s A q i l T (upt_Kl1 A w1) (upt_Klh A w1) (upt_Ka4 A)) (mBt (fun h0 => have g0 := of_decide_eq_true h0; (okl_fst (by kernel_rfl) rfl (by kernel_rfl) (okl_blk (id := 1) (d := (blkC (takeC 0 (dropC 0 (lopC (blkC (dropC 0 (takeC 0 (dropC 2 (body Try.f121)))))))))) (by kernel_rfl) (upt_c w1 A q i l hq p hi h1 hE (by omega) (IHH (by omega)))))) (fun h0 => have g0 := of_decide_eq_false h0; (at_gc (ok_gc _ _ _ _) (upt_z A q l (fun j hj => hE j (by omega))) [1, 2] (by kernel_rfl) (by kernel_rfl) (by kernel_rfl) (fun μ => by kernel_rfl))))))
theorem upt_hd (A : Pn) (q : Nat → Int) (hq : Rm q A) : ∀ (w1 p : Nat) (i : Int) (l : Nat → Int), p + w1 = 16 → i = (p : Int) → 1 ≤ p → (∀ j, j < p → Rm (sh (30 * j) l) (smu j A)) → (upt_Klh A (w1 + 1)) [(vP 0), (vP 1), (vP 2), (vI i)] [(V.ints .u64 30 q), (V.ints .u64 480 (fun _ => 0)), (V.ints .u64 480 l)]
  | 0, p, i, l, hp, hi, h1, hE => upt_h 0 A q i l hq p hi h1 hE (by omega) (fun h => absurd h (by omega))
  | w1 + 1, p, i, l, hp, hi, h1, hE => upt_h (w1 + 1) A q i l hq p hi h1 hE (by omega) (fun _ l hE => upt_hd A q hq w1 (p + 1) _ l (by omega) (by rw [hi]; exact add1_nat p (by omega)) (by omega) hE)
theorem upt_i_s (A : Pn) (q : Nat → Int) (l : Nat → Int) (T : List V) (kk k0 : List V → List V → Prop) : awq Try.prog o115O nG 0 1200 (takeC 0 (takeC 0 (dropC 2 (body Try.f121)))) (segQ 20 [1, 2, 3, 4] kk (segQ 20 [2, 3] k0 (ends Try.prog Try.f121 ((upK A))))) ⟨ovr 20 [1, 2, 3] [(vP 0), (vP 1), (vP 2)] T, [(V.ints .u64 30 q), (V.ints .u64 480 (fun _ => 0)), (V.ints .u64 480 l)]⟩ = (kk [(vP 0), (vP 1), (vP 2), (vI 1)] [(V.ints .u64 30 q), (V.ints .u64 480 (fun _ => 0)), (V.ints .u64 480 l)]) := by kernel_rfl
abbrev upt_Ks30 (A : Pn) : List V → List V → Prop := OkL Try.prog 0 20 [1, 2, 3] (takeC 0 (dropC 2 (body Try.f121))) (segQ 20 [2, 3] (upt_Ka4 A) (ends Try.prog Try.f121 ((upK A))))
abbrev upt_Ks31 (A : Pn) : List V → List V → Prop := OkL Try.prog 0 20 [1, 2, 3, 4] (dropC 0 (takeC 0 (dropC 2 (body Try.f121)))) (segQ 20 [2, 3] (upt_Ka4 A) (ends Try.prog Try.f121 ((upK A))))
theorem upt_i (A : Pn) (q : Nat → Int) (l : Nat → Int) (hq : Rm q A) (hE : ∀ j, j < 1 → Rm (sh (30 * j) l) (smu j A)) : (upt_Ks30 A) [(vP 0), (vP 1), (vP 2)] [(V.ints .u64 30 q), (V.ints .u64 480 (fun _ => 0)), (V.ints .u64 480 l)] := by
  exact okl_seg hM o115O_ok nG_ok (N := 1200) 0 (by kernel_rfl) (show dropC 0 (takeC 0 (dropC 2 (body Try.f121))) = (dropC 0 (takeC 0 (dropC 2 (body Try.f121)))) by kernel_rfl) (fun T => Eq.mpr (upt_i_s A q l T (upt_Ks31 A) (upt_Ka4 A)) (okl_blk (id := 0) (d := (blkC (dropC 0 (takeC 0 (dropC 2 (body Try.f121)))))) (by kernel_rfl) (okl_loop (15 + 1) (by kernel_rfl) (upt_hd A q hq 15 1 1 l (by omega) rfl (by omega) hE))))
theorem upt_s_s (A : Pn) (q : Nat → Int) (T : List V) (kk : List V → List V → Prop) : awq Try.prog o115O nG 0 1200 (takeC 2 (body Try.f121)) (segQ 20 [1, 2, 3] kk (ends Try.prog Try.f121 ((upK A)))) ⟨ovr 20 [0] [(V.ints .u64 30 q)] T, []⟩ = (kk [(vP 0), (vP 1), (vP 2)] [(V.ints .u64 30 q), (V.ints .u64 480 (fun _ => 0)), (V.ints .u64 480 (spl 0 30 480 rZeroPO (fun _ => 0)))]) := by kernel_rfl
abbrev upt_Ka0 (A : Pn) : List V → List V → Prop := OkL Try.prog 0 20 [0] (body Try.f121) (ends Try.prog Try.f121 ((upK A)))
abbrev upt_Ka3 (A : Pn) : List V → List V → Prop := OkL Try.prog 0 20 [1, 2, 3] (dropC 2 (body Try.f121)) (ends Try.prog Try.f121 ((upK A)))
theorem upt_all (A : Pn) (q : Nat → Int) (hq : Rm q A) : (upt_Ka0 A) [(V.ints .u64 30 q)] [] := by
  exact okl_seg hM o115O_ok nG_ok (N := 1200) 2 (by kernel_rfl) (show dropC 2 (body Try.f121) = (dropC 2 (body Try.f121)) by kernel_rfl) (fun T => Eq.mpr (upt_s_s A q T (upt_Ka3 A)) (okl_fst (by kernel_rfl) rfl (by kernel_rfl) (upt_i A q (spl 0 30 480 rZeroPO (fun _ => 0)) hq (fun j hj => by obtain rfl : j = 0 := (by omega); exact rZero_rm.congr (row_put (N := 480) (p := 0) (by omega)).1))))
noncomputable def G121 (G : GOrc) : GOrc := extG 121 (fun vs m K => match vs with
  | [.ints .u64 30 q] => (∃ A, Rm q A) ∧ ∀ h : Nat → Int, (∀ A, Rm q A → ∀ j, j < 16 → Rm (sh (30 * j) h) (smu j A)) → K (.ints .u64 480 h) m
  | _ => False) G
theorem G121_ok {G : GOrc} (hG : GOrcOK Try.prog G) : GOrcOK Try.prog (G121 G) := by
  refine extG_ok hG fun vs m K h => ?_
  split at h
  · rename_i q
    obtain ⟨⟨A, hA⟩, h⟩ := h
    exact outs_okl Try.func121 (by kernel_rfl) (by kernel_rfl) (show viewO [] [] [.ints .u64 30 q] m = some ([.ints .u64 30 q], []) by kernel_rfl) (O1 := fun v => ∃ h, v = .ints .u64 480 h ∧ ∀ j, j < 16 → Rm (sh (30 * j) h) (smu j A)) (O2 := fun _ _ => False) (fun r h => by obtain ⟨h, rfl, _⟩ := h; exact ⟨rfl, fun _ => rfl⟩) (fun res c h => h.elim) (upt_all A q hA) (Nat.le_of_ble_eq_true (by kernel_rfl)) (by kernel_rfl) rfl (fun r hr => by obtain ⟨g, rfl, hg⟩ := hr; exact h g fun A' hA' => by rw [hA'.uniq hA]; exact hg) (fun res c h => h.elim)
  · exact h.elim
end Go.Proofs.Ytbnclikjbnfodaa

/-
  Mul: a contract. Conditions: none.
-/
namespace Go.Proofs.Ytbnclikjbnfodaa
open Go.Ev Go.Num
set_option linter.unusedVariables false
set_option linter.unusedSimpArgs false
noncomputable def GMl : GOrc := G121 noG
theorem GMl_ok : GOrcOK Try.prog GMl := G121_ok (noG_ok _)
abbrev mlK (n : Nat) (A : Pn) : V → List V → Prop := out0 (fun v => ∃ h, v = .ints .u64 30 h ∧ Rm h (smu n A)) (fun _ _ => False)
abbrev mlt_Ka4 (A : Pn) (e : Nat → Int) : List V → List V → Prop := OkL Try.prog 0 40 [4, 6] (dropC 3 (body Try.f112)) (ends Try.prog Try.f112 ((mlK (vb e).toNat A)))
abbrev mlt_Klh (A : Pn) (e : Nat → Int) (w1 : Nat) : List V → List V → Prop := OkH Try.prog 0 40 [2, 4, 5, 6, 7] (lopC (blkC (dropC 0 (takeC 0 (dropC 2 (body Try.f112)))))) (blkQ 0 (segQ 40 [4, 6] (mlt_Ka4 A e) (ends Try.prog Try.f112 ((mlK (vb e).toNat A))))) w1
abbrev mlt_Kl2 (A : Pn) (e : Nat → Int) (w1 : Nat) : List V → List V → Prop := OkL Try.prog 0 40 [2, 4, 5, 6, 7] (dropC 1 (lopC (blkC (dropC 0 (takeC 0 (dropC 2 (body Try.f112))))))) (segQ 40 [2, 4, 5, 6, 7] (mlt_Klh A e w1) (blkQ 0 (segQ 40 [4, 6] (mlt_Ka4 A e) (ends Try.prog Try.f112 ((mlK (vb e).toNat A))))))
theorem mlt_z_s (A : Pn) (e q : Nat → Int) (x : Nat → Int) (T : List V) : awq Try.prog o115O GMl 0 1200 (dropC 3 (body Try.f112)) (ends Try.prog Try.f112 ((mlK (vb e).toNat A))) ⟨ovr 40 [4, 6] [(vP 0), (vP 1)] T, [(V.ints .u64 30 (fun _ => 0)), (V.ints .u64 30 x)]⟩ = ((mlK (vb e).toNat A) (V.ints .u64 30 (sh 0 (spl 0 30 30 (sh 0 x) (fun _ => 0)))) [(V.ints .u64 30 (spl 0 30 30 (sh 0 x) (fun _ => 0))), (V.ints .u64 30 x)]) := by kernel_rfl
theorem mlt_z (A : Pn) (e q : Nat → Int) (x : Nat → Int) (hX : Rm x (smu (vb e).toNat A)) : (mlt_Ka4 A e) [(vP 0), (vP 1)] [(V.ints .u64 30 (fun _ => 0)), (V.ints .u64 30 x)] := by
  exact okl_all hM o115O_ok GMl_ok (N := 1200) (fun T => Eq.mpr (mlt_z_s A e q x T ) (.inl ⟨_, rfl, hX⟩))
theorem mlt_l_s (A : Pn) (e q : Nat → Int) (i : Int) (l x : Nat → Int) (T : List V) (k0 k1 : List V → List V → Prop) : awq Try.prog o115O GMl 0 1200 (dropC 1 (lopC (blkC (dropC 0 (takeC 0 (dropC 2 (body Try.f112))))))) (segQ 40 [2, 4, 5, 6, 7] k0 (blkQ 0 (segQ 40 [4, 6] k1 (ends Try.prog Try.f112 ((mlK (vb e).toNat A)))))) ⟨ovr 40 [2, 4, 5, 6, 7] [(vP 0), (vP 1), (vP 2), (vP 3), (vI i)] T, [(V.ints .u8 32 e), (V.ints .u64 30 (fun _ => 0)), (V.ints .u64 480 l), (V.ints .u64 30 x)]⟩ = (k0 [(vP 0), (vP 1), (vP 2), (vP 3), (vI (subI .i64 i 1))] [(V.ints .u8 32 e), (V.ints .u64 30 (fun _ => 0)), (V.ints .u64 480 l), (V.ints .u64 30 x)]) := by kernel_rfl
theorem mlt_l (w1 : Nat) (A : Pn) (e q : Nat → Int) (i : Int) (l x : Nat → Int) (p : Nat) (hX : Rm x (smu (upB e (p + 1)) A)) (IH : ∀ (x : Nat → Int), Rm x (smu (upB e (p + 1)) A) → (mlt_Klh A e w1) [(vP 0), (vP 1), (vP 2), (vP 3), (vI (subI .i64 i 1))] [(V.ints .u8 32 e), (V.ints .u64 30 (fun _ => 0)), (V.ints .u64 480 l), (V.ints .u64 30 x)]) : (mlt_Kl2 A e w1) [(vP 0), (vP 1), (vP 2), (vP 3), (vI i)] [(V.ints .u8 32 e), (V.ints .u64 30 (fun _ => 0)), (V.ints .u64 480 l), (V.ints .u64 30 x)] := by
  exact okl_all hM o115O_ok GMl_ok (N := 1200) (fun T => Eq.mpr (mlt_l_s A e q i l x T (mlt_Klh A e w1) (mlt_Ka4 A e)) (IH x hX))
theorem mlt_c1_s (A : Pn) (e q : Nat → Int) (i : Int) (l x : Nat → Int) (T : List V) (k0 k1 k2 : List V → List V → Prop) : awq Try.prog o115O GMl 0 1200 (dropC 0 (blkC (takeC 0 (dropC 0 (lopC (blkC (dropC 0 (takeC 0 (dropC 2 (body Try.f112)))))))))) (blkQ 1 (segQ 40 [2, 4, 5, 6, 7] k0 (segQ 40 [2, 4, 5, 6, 7] k1 (blkQ 0 (segQ 40 [4, 6] k2 (ends Try.prog Try.f112 ((mlK (vb e).toNat A)))))))) ⟨ovr 40 [2, 4, 5, 6, 7] [(vP 0), (vP 1), (vP 2), (vP 3), (vI i)] T, [(V.ints .u8 32 e), (V.ints .u64 30 (fun _ => 0)), (V.ints .u64 480 l), (V.ints .u64 30 x)]⟩ = (gB (decide (0 ≤ i ∧ i < 32)) (gB (Nat.blt (0 + (Int.toNat i * 1)) 32) (gB (decide (0 ≤ (remI (e (0 + (Int.toNat i * 1))) 16) ∧ (remI (e (0 + (Int.toNat i * 1))) 16) < 16)) (gB (Nat.ble ((0 + (Int.toNat (remI (e (0 + (Int.toNat i * 1))) 16) * 30)) + 30) 480) (k0 [(vP 0), (vP 1), (vP 2), (vP 3), (vI i)] [(V.ints .u8 32 e), (V.ints .u64 30 (fun _ => 0)), (V.ints .u64 480 l), (V.ints .u64 30 (spl 0 30 30 (rAddPO (rDoublePO (rDoublePO (rDoublePO (rDoublePO (sh 0 x))))) (sh (0 + (Int.toNat (remI (e (0 + (Int.toNat i * 1))) 16) * 30)) l)) x))]))))) := by kernel_rfl
abbrev mlt_Kc1 (A : Pn) (e : Nat → Int) (w1 : Nat) : List V → List V → Prop := OkL Try.prog 0 40 [2, 4, 5, 6, 7] (dropC 0 (blkC (takeC 0 (dropC 0 (lopC (blkC (dropC 0 (takeC 0 (dropC 2 (body Try.f112)))))))))) (blkQ 1 (segQ 40 [2, 4, 5, 6, 7] (mlt_Kl2 A e w1) (segQ 40 [2, 4, 5, 6, 7] (mlt_Klh A e w1) (blkQ 0 (segQ 40 [4, 6] (mlt_Ka4 A e) (ends Try.prog Try.f112 ((mlK (vb e).toNat A))))))))
theorem mlt_c1 (w1 : Nat) (A : Pn) (e q : Nat → Int) (i : Int) (l x : Nat → Int) (he : B32 e) (hT : ∀ j, j < 16 → Rm (sh (30 * j) l) (smu j A)) (p : Nat) (hi : i = 31 - (p : Int)) (hp : p < 32) (hX : Rm x (smu (16 * upB e p + (e (31 - p)).toNat / 16) A)) (IH : ∀ (x : Nat → Int), Rm x (smu (upB e (p + 1)) A) → (mlt_Klh A e w1) [(vP 0), (vP 1), (vP 2), (vP 3), (vI (subI .i64 i 1))] [(V.ints .u8 32 e), (V.ints .u64 30 (fun _ => 0)), (V.ints .u64 480 l), (V.ints .u64 30 x)]) : (mlt_Kc1 A e w1) [(vP 0), (vP 1), (vP 2), (vP 3), (vI i)] [(V.ints .u8 32 e), (V.ints .u64 30 (fun _ => 0)), (V.ints .u64 480 l), (V.ints .u64 30 x)] := by
  obtain ⟨hs, hb0, hb1⟩ := upB_succ he hp
  have hx : 0 + (Int.toNat i * 1) = 31 - p := by rw [hi, show (31 - (p : Int)) = ((31 - p : Nat) : Int) by omega, Int.toNat_natCast]; omega
  have hr : remI (e (0 + (Int.toNat i * 1))) 16 = (((e (31 - p)).toNat % 16 : Nat) : Int) := by rw [hx]; unfold remI; rw [Int.tmod_eq_emod_of_nonneg hb0]; omega
  have hst : Rm (rAddPO (rDoublePO (rDoublePO (rDoublePO (rDoublePO (sh 0 x))))) (sh (0 + (Int.toNat (remI (e (0 + (Int.toNat i * 1))) 16) * 30)) l)) (smu (upB e (p + 1)) A) := by
    rw [hr, Int.toNat_natCast, hs, show 0 + ((e (31 - p)).toNat % 16 * 30) = 30 * ((e (31 - p)).toNat % 16) by omega, smu_add]
    exact rAdd_rm (dbl4 hX) (hT _ (by omega))
  exact okl_all hM o115O_ok GMl_ok (N := 1200) (fun T => Eq.mpr (mlt_c1_s A e q i l x T (mlt_Kl2 A e w1) (mlt_Klh A e w1) (mlt_Ka4 A e)) (gm (decide_eq_true (by omega)) (gm (bltT.2 (by omega)) (gm (decide_eq_true (by omega)) (gm (bleT.2 (by omega)) (mlt_l w1 A e q i l (spl 0 30 30 (rAddPO (rDoublePO (rDoublePO (rDoublePO (rDoublePO (sh 0 x))))) (sh (0 + (Int.toNat (remI (e (0 + (Int.toNat i * 1))) 16) * 30)) l)) x) p hst IH))))))
theorem mlt_c_s (A : Pn) (e q : Nat → Int) (i : Int) (l x : Nat → Int) (T : List V) (kk k0 k1 k2 : List V → List V → Prop) : awq Try.prog o115O GMl 0 1200 (takeC 0 (blkC (takeC 0 (dropC 0 (lopC (blkC (dropC 0 (takeC 0 (dropC 2 (body Try.f112)))))))))) (segQ 40 [2, 4, 5, 6, 7] kk (blkQ 1 (segQ 40 [2, 4, 5, 6, 7] k0 (segQ 40 [2, 4, 5, 6, 7] k1 (blkQ 0 (segQ 40 [4, 6] k2 (ends Try.prog Try.f112 ((mlK (vb e).toNat A))))))))) ⟨ovr 40 [2, 4, 5, 6, 7] [(vP 0), (vP 1), (vP 2), (vP 3), (vI i)] T, [(V.ints .u8 32 e), (V.ints .u64 30 (fun _ => 0)), (V.ints .u64 480 l), (V.ints .u64 30 x)]⟩ = (gB (decide (0 ≤ i ∧ i < 32)) (gB (Nat.blt (0 + (Int.toNat i * 1)) 32) (gB (decide (0 ≤ (quoI .u8 (e (0 + (Int.toNat i * 1))) 16) ∧ (quoI .u8 (e (0 + (Int.toNat i * 1))) 16) < 16)) (gB (Nat.ble ((0 + (Int.toNat (quoI .u8 (e (0 + (Int.toNat i * 1))) 16) * 30)) + 30) 480) (kk [(vP 0), (vP 1), (vP 2), (vP 3), (vI i)] [(V.ints .u8 32 e), (V.ints .u64 30 (fun _ => 0)), (V.ints .u64 480 l), (V.ints .u64 30 (spl 0 30 30 (rAddPO (rDoublePO (rDoublePO (rDoublePO (rDoublePO (sh 0 x))))) (sh (0 + (Int.toNat (quoI .u8 (e (0 + (Int.toNat i * 1))) 16) * 30)) l)) x))]))))) := by kernel_rfl
abbrev mlt_Kc0 (A : Pn) (e : Nat → Int) (w1 : Nat) : List V → List V → Prop := OkL Try.prog 0 40 [2, 4, 5, 6, 7] (blkC (takeC 0 (dropC 0 (lopC (blkC (dropC 0 (takeC 0 (dropC 2 (body Try.f112))))))))) (blkQ 1 (segQ 40 [2, 4, 5, 6, 7] (mlt_Kl2 A e w1) (segQ 40 [2, 4, 5, 6, 7] (mlt_Klh A e w1) (blkQ 0 (segQ 40 [4, 6] (mlt_Ka4 A e) (ends Try.prog Try.f112 ((mlK (vb e).toNat A))))))))
theorem mlt_c (w1 : Nat) (A : Pn) (e q : Nat → Int) (i : Int) (l x : Nat → Int) (he : B32 e) (hT : ∀ j, j < 16 → Rm (sh (30 * j) l) (smu j A)) (p : Nat) (hi : i = 31 - (p : Int)) (hX : Rm x (smu (upB e p) A)) (hp : p < 32) (IH : ∀ (x : Nat → Int), Rm x (smu (upB e (p + 1)) A) → (mlt_Klh A e w1) [(vP 0), (vP 1), (vP 2), (vP 3), (vI (subI .i64 i 1))] [(V.ints .u8 32 e), (V.ints .u64 30 (fun _ => 0)), (V.ints .u64 480 l), (V.ints .u64 30 x)]) : (mlt_Kc0 A e w1) [(vP 0), (vP 1), (vP 2), (vP 3), (vI i)] [(V.ints .u8 32 e), (V.ints .u64 30 (fun _ => 0)), (V.ints .u64 480 l), (V.ints .u64 30 x)] := by
  obtain ⟨hs, hb0, hb1⟩ := upB_succ he hp
  have hx : 0 + (Int.toNat i * 1) = 31 - p := by rw [hi, show (31 - (p : Int)) = ((31 - p : Nat) : Int) by omega, Int.toNat_natCast]; omega
  have hr : quoI .u8 (e (0 + (Int.toNat i * 1))) 16 = (((e (31 - p)).toNat / 16 : Nat) : Int) := by rw [hx]; unfold quoI; rw [Int.tdiv_eq_ediv_of_nonneg hb0, wrap_u8]; omega
  have hst : Rm (rAddPO (rDoublePO (rDoublePO (rDoublePO (rDoublePO (sh 0 x))))) (sh (0 + (Int.toNat (quoI .u8 (e (0 + (Int.toNat i * 1))) 16) * 30)) l)) (smu (16 * upB e p + (e (31 - p)).toNat / 16) A) := by
    rw [hr, Int.toNat_natCast, show 0 + ((e (31 - p)).toNat / 16 * 30) = 30 * ((e (31 - p)).toNat / 16) by omega, smu_add]
    exact rAdd_rm (dbl4 hX) (hT _ (by omega))
  exact okl_seg hM o115O_ok GMl_ok (N := 1200) 0 (by kernel_rfl) (show dropC 0 (blkC (takeC 0 (dropC 0 (lopC (blkC (dropC 0 (takeC 0 (dropC 2 (body Try.f112))))))))) = (dropC 0 (blkC (takeC 0 (dropC 0 (lopC (blkC (dropC 0 (takeC 0 (dropC 2 (body Try.f112)))))))))) by kernel_rfl) (fun T => Eq.mpr (mlt_c_s A e q i l x T (mlt_Kc1 A e w1) (mlt_Kl2 A e w1) (mlt_Klh A e w1) (mlt_Ka4 A e)) (gm (decide_eq_true (by omega)) (gm (bltT.2 (by omega)) (gm (decide_eq_true (by omega)) (gm (bleT.2 (by omega)) (mlt_c1 w1 A e q i l (spl 0 30 30 (rAddPO (rDoublePO (rDoublePO (rDoublePO (rDoublePO (sh 0 x))))) (sh (0 + (Int.toNat (quoI .u8 (e (0 + (Int.toNat i * 1))) 16) * 30)) l)) x) he hT p hi hp hst IH))))))
theorem mlt_h_s (A : Pn) (e q : Nat → Int) (i : Int) (l x : Nat → Int) (T : List V) (kk k0 k1 : List V → List V → Prop) : awq Try.prog o115O GMl 0 1200 (takeC 0 (lopC (blkC (dropC 0 (takeC 0 (dropC 2 (body Try.f112))))))) (segQ 40 [2, 4, 5, 6, 7] kk (segQ 40 [2, 4, 5, 6, 7] k0 (blkQ 0 (segQ 40 [4, 6] k1 (ends Try.prog Try.f112 ((mlK (vb e).toNat A))))))) ⟨ovr 40 [2, 4, 5, 6, 7] [(vP 0), (vP 1), (vP 2), (vP 3), (vI i)] T, [(V.ints .u8 32 e), (V.ints .u64 30 (fun _ => 0)), (V.ints .u64 480 l), (V.ints .u64 30 x)]⟩ = (mB (decide (i ≥ 0)) (kk [(vP 0), (vP 1), (vP 2), (vP 3), (vI i)] [(V.ints .u8 32 e), (V.ints .u64 30 (fun _ => 0)), (V.ints .u64 480 l), (V.ints .u64 30 x)]) (k1 [(vP 1), (vP 3)] [(V.ints .u8 32 e), (V.ints .u64 30 (fun _ => 0)), (V.ints .u64 480 l), (V.ints .u64 30 x)])) := by kernel_rfl
abbrev mlt_Kl1 (A : Pn) (e : Nat → Int) (w1 : Nat) : List V → List V → Prop := OkL Try.prog 0 40 [2, 4, 5, 6, 7] (dropC 0 (lopC (blkC (dropC 0 (takeC 0 (dropC 2 (body Try.f112))))))) (segQ 40 [2, 4, 5, 6, 7] (mlt_Klh A e w1) (blkQ 0 (segQ 40 [4, 6] (mlt_Ka4 A e) (ends Try.prog Try.f112 ((mlK (vb e).toNat A))))))
theorem mlt_h (w1 : Nat) (A : Pn) (e q : Nat → Int) (i : Int) (l x : Nat → Int) (he : B32 e) (hT : ∀ j, j < 16 → Rm (sh (30 * j) l) (smu j A)) (p : Nat) (hi : i = 31 - (p : Int)) (hX : Rm x (smu (upB e p) A)) (hp : p ≤ 32) (IHH : p < 32 → ∀ (x : Nat → Int), Rm x (smu (upB e (p + 1)) A) → (mlt_Klh A e w1) [(vP 0), (vP 1), (vP 2), (vP 3), (vI (subI .i64 i 1))] [(V.ints .u8 32 e), (V.ints .u64 30 (fun _ => 0)), (V.ints .u64 480 l), (V.ints .u64 30 x)]) : (mlt_Klh A e (w1 + 1)) [(vP 0), (vP 1), (vP 2), (vP 3), (vI i)] [(V.ints .u8 32 e), (V.ints .u64 30 (fun _ => 0)), (V.ints .u64 480 l), (V.ints .u64 30 x)] := by
  exact okh_round (okl_seg hM o115O_ok GMl_ok (N := 1200) 0 (by kernel_rfl) (show dropC 0 (lopC (blkC (dropC 0 (takeC 0 (dropC 2 (body Try.f112)))))) = (dropC 0 (lopC (blkC (dropC 0 (takeC 0 (dropC 2 (body Try.f112))))))) by kernel_rfl)  (fun T => Eq.mpr (mlt_h_s A e q i l x T (mlt_Kl1 A e w1) (mlt_Klh A e w1) (mlt_Ka4 A e)) (mBt (fun h0 => have g0 := of_decide_eq_true h0; (okl_fst (by kernel_rfl) rfl (by kernel_rfl) (okl_blk (id := 1) (d := (blkC (takeC 0 (dropC 0 (lopC (blkC (dropC 0 (takeC 0 (dropC 2 (body Try.f112)))))))))) (by kernel_rfl) (mlt_c w1 A e q i l x he hT p hi hX (by omega) (IHH (by omega)))))) (fun h0 => have g0 := of_decide_eq_false h0; (at_gc (ok_gc _ _ _ _) (mlt_z A e q x (by have e1 : p = 32 := (by omega); rw [e1, upB_32] at hX; exact hX)) [1, 3] (by kernel_rfl) (by kernel_rfl) (by kernel_rfl) (fun μ => by kernel_rfl))))))
theorem mlt_hd (A : Pn) (e q l : Nat → Int) (he : B32 e) (hT : ∀ j, j < 16 → Rm (sh (30 * j) l) (smu j A)) : ∀ (w1 p : Nat) (i : Int) (x : Nat → Int), p + w1 = 32 → i = 31 - (p : Int) → Rm x (smu (upB e p) A) → (mlt_Klh A e (w1 + 1)) [(vP 0), (vP 1), (vP 2), (vP 3), (vI i)] [(V.ints .u8 32 e), (V.ints .u64 30 (fun _ => 0)), (V.ints .u64 480 l), (V.ints .u64 30 x)]
  | 0, p, i, x, hp, hi, hX => mlt_h 0 A e q i l x he hT p hi hX (by omega) (fun h => absurd h (by omega))
  | w1 + 1, p, i, x, hp, hi, hX => mlt_h (w1 + 1) A e q i l x he hT p hi hX (by omega) (fun _ x hX => mlt_hd A e q l he hT w1 (p + 1) _ x (by omega) (by rw [hi]; exact (wrap_i64 _ (by omega)).trans (by omega)) hX)
theorem mlt_i_s (A : Pn) (e q : Nat → Int) (l x : Nat → Int) (T : List V) (kk k0 : List V → List V → Prop) : awq Try.prog o115O GMl 0 1200 (takeC 0 (takeC 0 (dropC 2 (body Try.f112)))) (segQ 40 [2, 4, 5, 6, 7] kk (segQ 40 [4, 6] k0 (ends Try.prog Try.f112 ((mlK (vb e).toNat A))))) ⟨ovr 40 [2, 4, 5, 6] [(vP 0), (vP 1), (vP 2), (vP 3)] T, [(V.ints .u8 32 e), (V.ints .u64 30 (fun _ => 0)), (V.ints .u64 480 l), (V.ints .u64 30 x)]⟩ = (kk [(vP 0), (vP 1), (vP 2), (vP 3), (vI 31)] [(V.ints .u8 32 e), (V.ints .u64 30 (fun _ => 0)), (V.ints .u64 480 l), (V.ints .u64 30 x)]) := by kernel_rfl
abbrev mlt_Ks30 (A : Pn) (e : Nat → Int) : List V → List V → Prop := OkL Try.prog 0 40 [2, 4, 5, 6] (takeC 0 (dropC 2 (body Try.f112))) (segQ 40 [4, 6] (mlt_Ka4 A e) (ends Try.prog Try.f112 ((mlK (vb e).toNat A))))
abbrev mlt_Ks31 (A : Pn) (e : Nat → Int) : List V → List V → Prop := OkL Try.prog 0 40 [2, 4, 5, 6, 7] (dropC 0 (takeC 0 (dropC 2 (body Try.f112)))) (segQ 40 [4, 6] (mlt_Ka4 A e) (ends Try.prog Try.f112 ((mlK (vb e).toNat A))))
theorem mlt_i (A : Pn) (e q : Nat → Int) (l x : Nat → Int) (he : B32 e) (hT : ∀ j, j < 16 → Rm (sh (30 * j) l) (smu j A)) (hX : Rm x (smu (upB e 0) A)) : (mlt_Ks30 A e) [(vP 0), (vP 1), (vP 2), (vP 3)] [(V.ints .u8 32 e), (V.ints .u64 30 (fun _ => 0)), (V.ints .u64 480 l), (V.ints .u64 30 x)] := by
  exact okl_seg hM o115O_ok GMl_ok (N := 1200) 0 (by kernel_rfl) (show dropC 0 (takeC 0 (dropC 2 (body Try.f112))) = (dropC 0 (takeC 0 (dropC 2 (body Try.f112)))) by kernel_rfl) (fun T => Eq.mpr (mlt_i_s A e q l x T (mlt_Ks31 A e) (mlt_Ka4 A e)) (okl_blk (id := 0) (d := (blkC (dropC 0 (takeC 0 (dropC 2 (body Try.f112)))))) (by kernel_rfl) (okl_loop (32 + 1) (by kernel_rfl) (mlt_hd A e q l he hT 32 0 31 x (by omega) rfl hX))))
theorem mlt_s_s (A : Pn) (e q : Nat → Int) (T : List V) (kk : List V → List V → Prop) : awq Try.prog o115O GMl 0 1200 (takeC 2 (body Try.f112)) (segQ 40 [2, 4, 5, 6] kk (ends Try.prog Try.f112 ((mlK (vb e).toNat A)))) ⟨ovr 40 [0, 1] [(V.ints .u8 32 e), (V.ints .u64 30 q)] T, []⟩ = ((∃ A, Rm q A) ∧ (∀ (ff1 : Nat → Int), (∀ A, Rm q A → ∀ j, j < 16 → Rm (sh (30 * j) ff1) (smu j A)) → (kk [(vP 0), (vP 2), (vP 3), (vP 4)] [(V.ints .u8 32 e), (V.ints .u64 30 q), (V.ints .u64 30 (fun _ => 0)), (V.ints .u64 480 ff1), (V.ints .u64 30 rZeroPO)]))) := by kernel_rfl
abbrev mlt_Ka0 (A : Pn) (e : Nat → Int) : List V → List V → Prop := OkL Try.prog 0 40 [0, 1] (body Try.f112) (ends Try.prog Try.f112 ((mlK (vb e).toNat A)))
abbrev mlt_Ka3 (A : Pn) (e : Nat → Int) : List V → List V → Prop := OkL Try.prog 0 40 [2, 4, 5, 6] (dropC 2 (body Try.f112)) (ends Try.prog Try.f112 ((mlK (vb e).toNat A)))
theorem mlt_all (A : Pn) (e q : Nat → Int) (he : B32 e) (hq : Rm q A) : (mlt_Ka0 A e) [(V.ints .u8 32 e), (V.ints .u64 30 q)] [] := by
  exact okl_seg hM o115O_ok GMl_ok (N := 1200) 2 (by kernel_rfl) (show dropC 2 (body Try.f112) = (dropC 2 (body Try.f112)) by kernel_rfl) (fun T => Eq.mpr (mlt_s_s A e q T (mlt_Ka3 A e)) ⟨⟨A, hq⟩, (fun ff1 q0 => (at_gc (ok_gc _ _ _ _) (okl_fst (by kernel_rfl) rfl (by kernel_rfl) (mlt_i A e q ff1 rZeroPO he (q0 A hq) (by rw [upB_0 he]; exact rZero_rm.congr (fun j hj => rfl)))) [0, 2, 3, 4] (by kernel_rfl) (by kernel_rfl) (by kernel_rfl) (fun μ => by kernel_rfl)))⟩)
noncomputable def G112 (G : GOrc) : GOrc := extG 112 (fun vs m K => match vs with
  | [.ints .u8 32 e, .ints .u64 30 q] => (B32 e ∧ ∃ A, Rm q A) ∧ ∀ h : Nat → Int, (∀ A, Rm q A → Rm h (smu (vb e).toNat A)) → K (.ints .u64 30 h) m
  | _ => False) G
theorem G112_ok {G : GOrc} (hG : GOrcOK Try.prog G) : GOrcOK Try.prog (G112 G) := by
  refine extG_ok hG fun vs m K h => ?_
  split at h
  · rename_i e q
    obtain ⟨⟨he, A, hA⟩, h⟩ := h
    exact outs_okl Try.func112 (by kernel_rfl) (by kernel_rfl) (show viewO [] [] [.ints .u8 32 e, .ints .u64 30 q] m = some ([.ints .u8 32 e, .ints .u64 30 q], []) by kernel_rfl) (O1 := fun v => ∃ h, v = .ints .u64 30 h ∧ Rm h (smu (vb e).toNat A)) (O2 := fun _ _ => False) (fun r h => by obtain ⟨h, rfl, _⟩ := h; exact ⟨rfl, fun _ => rfl⟩) (fun res c h => h.elim) (mlt_all A e q he hA) (Nat.le_of_ble_eq_true (by kernel_rfl)) (by kernel_rfl) rfl (fun r hr => by obtain ⟨g, rfl, hg⟩ := hr; exact h g fun A' hA' => by rw [hA'.uniq hA]; exact hg) (fun res c h => h.elim)
  · exact h.elim
end Go.Proofs.Ytbnclikjbnfodaa

namespace Go.Proofs.Ytbnclikjbnfodaa
open Go.Ev
/- fareboxlaw07.raised -/
noncomputable def raisedF (x : (Nat → Int)) (z : (Nat → Int)) : (Nat → Int) := (up 4 (subI .u64 (addI .u64 ((rElement (rMulO (rOfO x) z)) 4) 2251799813685248) 1) (up 3 (subI .u64 (addI .u64 ((rElement (rMulO (rOfO x) z)) 3) 2251799813685248) 1) (up 2 (subI .u64 (addI .u64 ((rElement (rMulO (rOfO x) z)) 2) 2251799813685248) 1) (up 1 (subI .u64 (addI .u64 ((rElement (rMulO (rOfO x) z)) 1) 2251799813685248) 1) (up 0 (subI .u64 (addI .u64 ((rElement (rMulO (rOfO x) z)) 0) 2251799813685248) 19) (rElement (rMulO (rOfO x) z)))))))
theorem raisedF_t (x : (Nat → Int)) (z : (Nat → Int)) : awp Try.prog o115O noG 300 (body Try.f116) (ends Try.prog Try.f116 fun v _ => okV (V.ints .u64 5 (raisedF x z)) v) ⟨[(V.ints .u64 5 x), (V.ints .u64 10 z)] ++ List.replicate 27 V.un, []⟩ = ((V.ints .u64 5 (raisedF x z)).den z0 = (V.ints .u64 5 (raisedF x z)).den z0) := by kernel_rfl
theorem raisedF_a (x : (Nat → Int)) (z : (Nat → Int)) : awp Try.prog o115O noG 300 (body Try.f116) (ends Try.prog Try.f116 fun v _ => okV (V.ints .u64 5 (raisedF x z)) v) ⟨[(V.ints .u64 5 x), (V.ints .u64 10 z)] ++ List.replicate 27 V.un, []⟩ := by rw [raisedF_t]
noncomputable def g116 : List V → Option (Bool × V) := fun | [.ints .u64 5 x, .ints .u64 10 z] => some (true, (V.ints .u64 5 (raisedF x z))) | _ => none
theorem raisedF_p (x : (Nat → Int)) (z : (Nat → Int)) : (∀ μ μ', V.den μ' (V.ints .u64 5 (raisedF x z)) = V.den μ (V.ints .u64 5 (raisedF x z))) ∧ ∀ μ w, PureAt Try.prog 116 (([(V.ints .u64 5 x), (V.ints .u64 10 z)] : List V).map (V.den μ)).toArray (V.den μ (V.ints .u64 5 (raisedF x z))) w :=
  pure_ok (F := o115O) (N := 300) (fn := Try.f116) (args := [(V.ints .u64 5 x), (V.ints .u64 10 z)]) (r := (V.ints .u64 5 (raisedF x z))) (n := 27) hM o115O_ok (noG_ok _) Try.func116 (by kernel_rfl) (by kernel_rfl) (by kernel_rfl) (by kernel_rfl) (raisedF_a x z) (by kernel_rfl)
theorem g116_ok (vs : List V) (v : V) (h : g116 vs = some (true, v)) : (∀ μ μ', v.den μ' = v.den μ) ∧ ∀ μ w, PureAt Try.prog 116 (vs.map (V.den μ)).toArray (v.den μ) w := by
  unfold g116 at h
  split at h
  · simp only [Option.some.injEq, Prod.mk.injEq, true_and] at h
    subst h
    exact raisedF_p _ _
  · simp at h
noncomputable def o116 : Orc := ext 116 g116 o115O
theorem o116_ok : OrcOK Try.prog o116 := ext_ok o115O_ok g116_ok

theorem raisedFO_ex : ∃ f : (Nat → Int) → (Nat → Int) → (Nat → Int), f = raisedF := ⟨_, rfl⟩
/-- raisedF, by a name that is not unfolded. -/
noncomputable def raisedFO : (Nat → Int) → (Nat → Int) → (Nat → Int) := Classical.choose raisedFO_ex
theorem raisedFO_eq : raisedFO = raisedF := Classical.choose_spec raisedFO_ex
noncomputable def g116O : List V → Option (Bool × V) := fun | [.ints .u64 5 x, .ints .u64 10 z] => some (true, (V.ints .u64 5 (raisedFO x z))) | _ => none
theorem g116O_ok (vs : List V) (v : V) (h : g116O vs = some (true, v)) : (∀ μ μ', v.den μ' = v.den μ) ∧ ∀ μ w, PureAt Try.prog 116 (vs.map (V.den μ)).toArray (v.den μ) w := by
  unfold g116O at h
  split at h
  · simp only [Option.some.injEq, Prod.mk.injEq, true_and] at h
    subst h
    rw [raisedFO_eq]
    exact raisedF_p _ _
  · simp at h
noncomputable def o116O : Orc := ext 116 g116O o116
theorem o116O_ok : OrcOK Try.prog o116O := ext_ok o116_ok g116O_ok

/- fareboxlaw07.form -/
noncomputable def formP (q : (Nat → Int)) (z : (Nat → Int)) : (Nat → Int) := (cond (rIsZeroO z) (spl 15 5 20 (raisedFO (sh 15 q) (rSmallO 1)) (spl 10 5 20 (raisedFO (sh 10 q) (rSmallO 1)) (spl 5 5 20 (raisedFO (sh 5 q) (rSmallO 1)) (spl 0 5 20 (raisedFO (sh 0 q) (rSmallO 1)) (fun _ => 0))))) (spl 15 5 20 (raisedFO (sh 15 q) z) (spl 10 5 20 (raisedFO (sh 10 q) z) (spl 5 5 20 (raisedFO (sh 5 q) z) (spl 0 5 20 (raisedFO (sh 0 q) z) (fun _ => 0))))))
theorem formP_t (q : (Nat → Int)) (z : (Nat → Int)) : awp Try.prog o116O noG 300 (body Try.f81) (ends Try.prog Try.f81 fun v _ => okV (V.ints .u64 20 (formP q z)) v) ⟨[(V.ints .u64 20 q), (V.ints .u64 10 z)] ++ List.replicate 23 V.un, []⟩ = (mB (rIsZeroO z) ((V.ints .u64 20 (spl 15 5 20 (raisedFO (sh 15 q) (rSmallO 1)) (spl 10 5 20 (raisedFO (sh 10 q) (rSmallO 1)) (spl 5 5 20 (raisedFO (sh 5 q) (rSmallO 1)) (spl 0 5 20 (raisedFO (sh 0 q) (rSmallO 1)) (fun _ => 0)))))).den z0 = (V.ints .u64 20 (formP q z)).den z0) ((V.ints .u64 20 (spl 15 5 20 (raisedFO (sh 15 q) z) (spl 10 5 20 (raisedFO (sh 10 q) z) (spl 5 5 20 (raisedFO (sh 5 q) z) (spl 0 5 20 (raisedFO (sh 0 q) z) (fun _ => 0)))))).den z0 = (V.ints .u64 20 (formP q z)).den z0)) := by kernel_rfl
theorem formP_a (q : (Nat → Int)) (z : (Nat → Int)) : awp Try.prog o116O noG 300 (body Try.f81) (ends Try.prog Try.f81 fun v _ => okV (V.ints .u64 20 (formP q z)) v) ⟨[(V.ints .u64 20 q), (V.ints .u64 10 z)] ++ List.replicate 23 V.un, []⟩ := by
  rw [formP_t]
  refine mBt (fun h1 => ?_) (fun h1 => ?_)
  · simp only [formP, h1, cond_true]
  · simp only [formP, h1, cond_false]
noncomputable def g81 : List V → Option (Bool × V) := fun | [.ints .u64 20 q, .ints .u64 10 z] => some (true, (V.ints .u64 20 (formP q z))) | _ => none
theorem formP_p (q : (Nat → Int)) (z : (Nat → Int)) : (∀ μ μ', V.den μ' (V.ints .u64 20 (formP q z)) = V.den μ (V.ints .u64 20 (formP q z))) ∧ ∀ μ w, PureAt Try.prog 81 (([(V.ints .u64 20 q), (V.ints .u64 10 z)] : List V).map (V.den μ)).toArray (V.den μ (V.ints .u64 20 (formP q z))) w :=
  pure_ok (F := o116O) (N := 300) (fn := Try.f81) (args := [(V.ints .u64 20 q), (V.ints .u64 10 z)]) (r := (V.ints .u64 20 (formP q z))) (n := 23) hM o116O_ok (noG_ok _) Try.func81 (by kernel_rfl) (by kernel_rfl) (by kernel_rfl) (by kernel_rfl) (formP_a q z) (by kernel_rfl)
theorem g81_ok (vs : List V) (v : V) (h : g81 vs = some (true, v)) : (∀ μ μ', v.den μ' = v.den μ) ∧ ∀ μ w, PureAt Try.prog 81 (vs.map (V.den μ)).toArray (v.den μ) w := by
  unfold g81 at h
  split at h
  · simp only [Option.some.injEq, Prod.mk.injEq, true_and] at h
    subst h
    exact formP_p _ _
  · simp at h
noncomputable def o81 : Orc := ext 81 g81 o116O
theorem o81_ok : OrcOK Try.prog o81 := ext_ok o116O_ok g81_ok

theorem formPO_ex : ∃ f : (Nat → Int) → (Nat → Int) → (Nat → Int), f = formP := ⟨_, rfl⟩
/-- formP, by a name that is not unfolded. -/
noncomputable def formPO : (Nat → Int) → (Nat → Int) → (Nat → Int) := Classical.choose formPO_ex
theorem formPO_eq : formPO = formP := Classical.choose_spec formPO_ex
noncomputable def g81O : List V → Option (Bool × V) := fun | [.ints .u64 20 q, .ints .u64 10 z] => some (true, (V.ints .u64 20 (formPO q z))) | _ => none
theorem g81O_ok (vs : List V) (v : V) (h : g81O vs = some (true, v)) : (∀ μ μ', v.den μ' = v.den μ) ∧ ∀ μ w, PureAt Try.prog 81 (vs.map (V.den μ)).toArray (v.den μ) w := by
  unfold g81O at h
  split at h
  · simp only [Option.some.injEq, Prod.mk.injEq, true_and] at h
    subst h
    rw [formPO_eq]
    exact formP_p _ _
  · simp at h
noncomputable def o81O : Orc := ext 81 g81O o81
theorem o81O_ok : OrcOK Try.prog o81O := ext_ok o81_ok g81O_ok
end Go.Proofs.Ytbnclikjbnfodaa

/-
  at and put: contracts. Conditions: none.
-/
namespace Go.Proofs.Ytbnclikjbnfodaa
open Go.Ev Go.Num
set_option linter.unusedVariables false
set_option linter.unusedSimpArgs false
/-- A row, one element more. -/
def PutR (n w : Nat) (f x h : Nat → Int) : Prop := (∀ j, j < n * w → h j = f j) ∧ ∀ j, j < w → h (n * w + j) = x j
theorem put_in {n w N : Nat} {f x : Nat → Int} (h : n * w + w ≤ N) : PutR n w f x (spl (0 + (n * w)) w N x f) := by
  rw [Nat.zero_add]
  constructor
  · intro j hj; rw [spl_at _ _ _ _ _ _ (by omega), if_neg (by omega)]
  · intro j hj; rw [spl_at _ _ _ _ _ _ (by omega), if_pos (by omega)]; congr 1; omega
theorem put_ap {n w : Nat} {f x z : Nat → Int} : PutR n w f x (apf (n * w) w f x z) := by
  constructor
  · intro j hj; unfold apf; rw [show Nat.blt j (n * w) = true from bltT.2 hj]; rfl
  · intro j hj
    unfold apf
    rw [show Nat.blt (n * w + j) (n * w) = false from ff bltT (by omega), show Nat.blt (n * w + j) (n * w + w) = true from bltT.2 (by omega), show n * w + j - n * w = j by omega]; rfl
theorem told3 {r v c0 c1 c2 d0 d1 d2 : V} {news m : List V} {ids : List Nat} (h0 : m[0]? = some d0) (h1 : m[1]? = some d1) (h2 : m[2]? = some d2) (hro : (roOf d0 = none ∧ roOf d1 = none ∧ roOf d2 = none) ∧ roOf c0 = none ∧ roOf c1 = none ∧ roOf c2 = none)
    (hl : ids.length = news.length) (hn : ids.Nodup) (hi : ∀ i ∈ ids, 3 ≤ i) (hd : ∀ ν κ : Mu, κ 0 = ν 0 → κ 1 = ν 1 → κ 2 = ν 2 → (∀ (j i : Nat), ids[j]? = some i → κ (3 + j) = ν i) → v.den ν = r.den κ ∧ d0.den ν = c0.den κ ∧ d1.den ν = c1.den κ ∧ d2.den ν = c2.den κ)
    (hnew : ∀ (j : Nat) (c : V) (i : Nat), news[j]? = some c → ids[j]? = some i → Plain c ∧ m[i]? = some c) : toldIn 0 3 ⟨r, [c0, c1, c2], news⟩ v m := by
  refine ⟨ids, hl, hn, fun i hi2 p hp => by have := hi i hi2; omega, rfl, fun ν κ hk hk2 => ?_⟩
  have k0 := hk 0 (by omega); have k1 := hk 1 (by omega); have k2 := hk 2 (by omega)
  simp only [Nat.zero_add] at k0 k1 k2
  obtain ⟨e1, e2, e3, e4⟩ := hd ν κ k0 k1 k2 hk2
  refine ⟨e1, fun j c hc => ?_, fun j c i hc hi => ?_⟩
  · rw [Nat.zero_add]
    match j, hc with
    | 0, hc => simp only [List.getElem?_cons_zero, Option.some.injEq] at hc; subst hc; exact ⟨hro.2.1, _, h0, hro.1.1, e2⟩
    | 1, hc => simp only [List.getElem?_cons_succ, List.getElem?_cons_zero, Option.some.injEq] at hc; subst hc; exact ⟨hro.2.2.1, _, h1, hro.1.2.1, e3⟩
    | 2, hc => simp only [List.getElem?_cons_succ, List.getElem?_cons_zero, Option.some.injEq] at hc; subst hc; exact ⟨hro.2.2.2, _, h2, hro.1.2.2, e4⟩
    | j + 3, hc => simp at hc
  · obtain ⟨⟨p1, p2, _⟩, hm⟩ := hnew j c i hc hi
    exact ⟨p1, _, hm, p1, p2 ν κ⟩
theorem ints_d (k : IntKind) (n : Nat) (f : Nat → Int) (ν κ : Mu) : (V.ints k n f).den ν = (V.ints k n f).den κ := (plain_ints k n f).2.1 ν κ
abbrev plV (i j n c d : Nat) (mu : Int) : V := .agg [.sl i 0 n c, .sl j 0 n d, .int .i64 mu]
theorem plV_den {i j i' j' n c d : Nat} {mu : Int} {ν κ : Mu} (h1 : κ i' = ν i) (h2 : κ j' = ν j) : (plV i j n c d mu).den ν = (plV i' j' n c d mu).den κ := by simp [V.den, V.dens, h1, h2]
/-- at: its end. -/
def atT (n c d : Nat) (mu : Int) (hh gg : Nat → Int) (t : Go.Ev.Told) : Prop := ∃ k : Int, (0 ≤ k ∧ k < n) ∧ t = ⟨.int .i64 k, [plV 1 2 n c d mu, .ints .u64 (c * 20) hh, .ints .u64 (d * 30) gg], []⟩
abbrev atK (n c d : Nat) (mu : Int) (hh gg : Nat → Int) (v : V) (m : List V) : Prop := ∃ t, atT n c d mu hh gg t ∧ toldIn 0 3 t v m
theorem at_mk {n c d : Nat} {mu k : Int} {hh gg : Nat → Int} (hk : 0 ≤ k ∧ k < n) {m : List V} (h0 : m[0]? = some (plV 1 2 n c d mu)) (h1 : m[1]? = some (.ints .u64 (c * 20) hh)) (h2 : m[2]? = some (.ints .u64 (d * 30) gg)) : atK n c d mu hh gg (.int .i64 k) m :=
  ⟨_, ⟨k, hk, rfl⟩, told3 (ids := []) h0 h1 h2 ⟨⟨rfl, rfl, rfl⟩, rfl, rfl, rfl⟩ rfl List.nodup_nil (fun i hi => by cases hi) (fun ν κ k0 k1 k2 _ => ⟨by simp [V.den], plV_den k1 k2, ints_d _ _ _ _ _, ints_d _ _ _ _ _⟩) (fun j c i hc _ => by simp at hc)⟩
/-- put: its ends. -/
def putT (n c d : Nat) (mu : Int) (hh gg x y : Nat → Int) (t : Go.Ev.Told) : Prop := ∃ h1 h2, (PutR n 20 hh x h1 ∧ PutR n 30 gg y h2) ∧
  ((n + 1 ≤ c ∧ n + 1 ≤ d ∧ t = ⟨.bool (isPO x y), [plV 1 2 (n + 1) c d mu, .ints .u64 (c * 20) h1, .ints .u64 (d * 30) h2], []⟩) ∨
  (n + 1 ≤ c ∧ ∃ d1, n + 1 ≤ d1 ∧ t = ⟨.bool (isPO x y), [plV 1 3 (n + 1) c d1 mu, .ints .u64 (c * 20) h1, .ints .u64 (d * 30) gg], [.ints .u64 (d1 * 30) h2]⟩) ∨
  (n + 1 ≤ d ∧ ∃ c1, n + 1 ≤ c1 ∧ t = ⟨.bool (isPO x y), [plV 3 2 (n + 1) c1 d mu, .ints .u64 (c * 20) hh, .ints .u64 (d * 30) h2], [.ints .u64 (c1 * 20) h1]⟩) ∨
  ∃ c1 d1, n + 1 ≤ c1 ∧ n + 1 ≤ d1 ∧ t = ⟨.bool (isPO x y), [plV 3 4 (n + 1) c1 d1 mu, .ints .u64 (c * 20) hh, .ints .u64 (d * 30) gg], [.ints .u64 (c1 * 20) h1, .ints .u64 (d1 * 30) h2]⟩)
abbrev putK (n c d : Nat) (mu : Int) (hh gg x y : Nat → Int) (v : V) (m : List V) : Prop := ∃ t, putT n c d mu hh gg x y t ∧ toldIn 0 3 t v m
section
variable {n c d : Nat} {mu : Int} {hh gg x y h1 h2 : Nat → Int} {m : List V}
theorem put_1 (hp : PutR n 20 hh x h1 ∧ PutR n 30 gg y h2) (hc : n + 1 ≤ c) (hd : n + 1 ≤ d) (m0 : m[0]? = some (plV 1 2 (n + 1) c d mu)) (m1 : m[1]? = some (.ints .u64 (c * 20) h1)) (m2 : m[2]? = some (.ints .u64 (d * 30) h2)) : putK n c d mu hh gg x y (.bool (isPO x y)) m :=
  ⟨_, ⟨h1, h2, hp, .inl ⟨hc, hd, rfl⟩⟩, told3 (ids := []) m0 m1 m2 ⟨⟨rfl, rfl, rfl⟩, rfl, rfl, rfl⟩ rfl List.nodup_nil (fun i hi => by cases hi) (fun ν κ k0 k1 k2 _ => ⟨by simp [V.den], plV_den k1 k2, ints_d _ _ _ _ _, ints_d _ _ _ _ _⟩) (fun j c i hc _ => by simp at hc)⟩
theorem new1 {c : V} {i : Nat} (hp : Plain c) (hm : m[i]? = some c) : ∀ (j : Nat) (c' : V) (i' : Nat), [c][j]? = some c' → [i][j]? = some i' → Plain c' ∧ m[i']? = some c' := fun j c' i' hc hi => by
  match j, hc, hi with
  | 0, hc, hi => simp only [List.getElem?_cons_zero, Option.some.injEq] at hc hi; subst hc hi; exact ⟨hp, hm⟩
  | j + 1, hc, _ => simp at hc
theorem put_2 {d1 i : Nat} (hi : 3 ≤ i) (hp : PutR n 20 hh x h1 ∧ PutR n 30 gg y h2) (hc : n + 1 ≤ c) (hd : n + 1 ≤ d1) (m0 : m[0]? = some (plV 1 i (n + 1) c d1 mu)) (m1 : m[1]? = some (.ints .u64 (c * 20) h1)) (m2 : m[2]? = some (.ints .u64 (d * 30) gg)) (mi : m[i]? = some (.ints .u64 (d1 * 30) h2)) : putK n c d mu hh gg x y (.bool (isPO x y)) m :=
  ⟨_, ⟨h1, h2, hp, .inr (.inl ⟨hc, d1, hd, rfl⟩)⟩, told3 (ids := [i]) m0 m1 m2 ⟨⟨rfl, rfl, rfl⟩, rfl, rfl, rfl⟩ rfl (by simp) (fun j hj => by simp at hj; omega) (fun ν κ k0 k1 k2 kn => ⟨by simp [V.den], plV_den k1 (kn 0 i rfl), ints_d _ _ _ _ _, ints_d _ _ _ _ _⟩) (new1 (plain_ints _ _ _) mi)⟩
theorem put_3 {c1 i : Nat} (hi : 3 ≤ i) (hp : PutR n 20 hh x h1 ∧ PutR n 30 gg y h2) (hd : n + 1 ≤ d) (hc : n + 1 ≤ c1) (m0 : m[0]? = some (plV i 2 (n + 1) c1 d mu)) (m1 : m[1]? = some (.ints .u64 (c * 20) hh)) (m2 : m[2]? = some (.ints .u64 (d * 30) h2)) (mi : m[i]? = some (.ints .u64 (c1 * 20) h1)) : putK n c d mu hh gg x y (.bool (isPO x y)) m :=
  ⟨_, ⟨h1, h2, hp, .inr (.inr (.inl ⟨hd, c1, hc, rfl⟩))⟩, told3 (ids := [i]) m0 m1 m2 ⟨⟨rfl, rfl, rfl⟩, rfl, rfl, rfl⟩ rfl (by simp) (fun j hj => by simp at hj; omega) (fun ν κ k0 k1 k2 kn => ⟨by simp [V.den], plV_den (kn 0 i rfl) k2, ints_d _ _ _ _ _, ints_d _ _ _ _ _⟩) (new1 (plain_ints _ _ _) mi)⟩
theorem put_4 {c1 d1 i k : Nat} (hi : 3 ≤ i) (hk : 3 ≤ k) (hik : i ≠ k) (hp : PutR n 20 hh x h1 ∧ PutR n 30 gg y h2) (hc : n + 1 ≤ c1) (hd : n + 1 ≤ d1) (m0 : m[0]? = some (plV i k (n + 1) c1 d1 mu)) (m1 : m[1]? = some (.ints .u64 (c * 20) hh)) (m2 : m[2]? = some (.ints .u64 (d * 30) gg)) (mi : m[i]? = some (.ints .u64 (c1 * 20) h1)) (mk : m[k]? = some (.ints .u64 (d1 * 30) h2)) : putK n c d mu hh gg x y (.bool (isPO x y)) m :=
  ⟨_, ⟨h1, h2, hp, .inr (.inr (.inr ⟨c1, d1, hc, hd, rfl⟩))⟩, told3 (ids := [i, k]) m0 m1 m2 ⟨⟨rfl, rfl, rfl⟩, rfl, rfl, rfl⟩ rfl (by simp [hik]) (fun j hj => by simp at hj; omega) (fun ν κ k0 k1 k2 kn => ⟨by simp [V.den], plV_den (kn 0 i rfl) (kn 1 k rfl), ints_d _ _ _ _ _, ints_d _ _ _ _ _⟩) (fun j c' i' hc hi => by
    match j, hc, hi with
    | 0, hc, hi => simp only [List.getElem?_cons_zero, Option.some.injEq] at hc hi; subst hc hi; exact ⟨plain_ints _ _ _, mi⟩
    | 1, hc, hi => simp only [List.getElem?_cons_succ, List.getElem?_cons_zero, Option.some.injEq] at hc hi; subst hc hi; exact ⟨plain_ints _ _ _, mk⟩
    | j + 2, hc, _ => simp at hc)⟩
end
theorem rem_k {n : Nat} {i : Int} (h : 0 < n) : -(n : Int) < remI i (n : Int) ∧ remI i (n : Int) < (n : Int) := by
  unfold remI
  have h1 := Int.tmod_lt_of_pos i (b := (n : Int)) (by omega)
  have h2 := Int.tmod_lt_of_pos (-i) (b := (n : Int)) (by omega)
  rw [Int.neg_tmod] at h2
  omega
theorem att_s_s (n c d : Nat) (mu : Int) (hh gg : Nat → Int) (ix : Int) (T : List V) : awq Try.prog o115O nG 3 1200 (body Try.f79) (ends Try.prog Try.f79 ((atK n c d mu hh gg))) ⟨ovr 23 [0, 1] [(vP 0), (vI ix)] T, [(V.agg [(V.sl 1 0 n c), (V.sl 2 0 n d), (V.int .i64 mu)]), (V.ints .u64 (c * 20) hh), (V.ints .u64 (d * 30) gg)]⟩ = (gB (((n : Nat) : Int) != 0) (mB (decide ((remI ix ((n : Nat) : Int)) < 0)) ((atK n c d mu hh gg) (V.int .i64 (addI .i64 (remI ix ((n : Nat) : Int)) ((n : Nat) : Int))) [(V.agg [(V.sl 1 0 n c), (V.sl 2 0 n d), (V.int .i64 mu)]), (V.ints .u64 (c * 20) hh), (V.ints .u64 (d * 30) gg)]) ((atK n c d mu hh gg) (V.int .i64 (remI ix ((n : Nat) : Int))) [(V.agg [(V.sl 1 0 n c), (V.sl 2 0 n d), (V.int .i64 mu)]), (V.ints .u64 (c * 20) hh), (V.ints .u64 (d * 30) gg)]))) := by kernel_rfl
abbrev att_Ka0 (n c d : Nat) (mu : Int) (hh gg : Nat → Int) : List V → List V → Prop := OkL Try.prog 3 23 [0, 1] (body Try.f79) (ends Try.prog Try.f79 ((atK n c d mu hh gg)))
theorem att_all (n c d : Nat) (mu : Int) (hh gg : Nat → Int) (ix : Int) (hn0 : 0 < n) (h9 : n ≤ 200) : (att_Ka0 n c d mu hh gg) [(vP 0), (vI ix)] [(V.agg [(V.sl 1 0 n c), (V.sl 2 0 n d), (V.int .i64 mu)]), (V.ints .u64 (c * 20) hh), (V.ints .u64 (d * 30) gg)] := by
  exact okl_all hM o115O_ok nG_ok (N := 1200) (fun T => Eq.mpr (att_s_s n c d mu hh gg ix T ) (gm (by simp; omega) (mBt (fun h0 => have g0 := of_decide_eq_true h0; (at_mk (by have := rem_k (i := ix) hn0; have hadd : addI .i64 (remI ix ((n : Nat) : Int)) ((n : Nat) : Int) = remI ix ((n : Nat) : Int) + n := (by unfold addI; exact wrap_i64 _ (by omega)); omega) rfl rfl rfl)) (fun h0 => have g0 := of_decide_eq_false h0; (at_mk (by have := rem_k (i := ix) hn0; have hadd : addI .i64 (remI ix ((n : Nat) : Int)) ((n : Nat) : Int) = remI ix ((n : Nat) : Int) + n := (by unfold addI; exact wrap_i64 _ (by omega)); omega) rfl rfl rfl)))))
theorem put_s_s (n c d : Nat) (mu : Int) (hh gg x y : Nat → Int) (T : List V) : awq Try.prog o81O nG 3 1200 (body Try.f80) (ends Try.prog Try.f80 ((putK n c d mu hh gg x y))) ⟨ovr 30 [0, 1, 2] [(vP 0), (V.ints .u64 20 x), (V.ints .u64 30 y)] T, [(V.agg [(V.sl 1 0 n c), (V.sl 2 0 n d), (V.int .i64 mu)]), (V.ints .u64 (c * 20) hh), (V.ints .u64 (d * 30) gg)]⟩ = ((mB (Nat.ble (n + 1) c) (gB (Nat.ble (0 + (n * 20) + 20) (c * 20)) ((mB (Nat.ble (n + 1) d) (gB (Nat.ble (0 + (n * 30) + 30) (d * 30)) ((putK n c d mu hh gg x y) (V.bool (isPO x y)) [(V.agg [(V.sl 1 0 (n + 1) c), (V.sl 2 0 (n + 1) d), (V.int .i64 mu)]), (V.ints .u64 (c * 20) (spl (0 + (n * 20)) 20 (c * 20) x hh)), (V.ints .u64 (d * 30) (spl (0 + (n * 30)) 30 (d * 30) y gg)), (V.ints .u64 20 x), (V.ints .u64 30 y), (V.ints .u64 20 x), (V.ints .u64 30 y)])) (gB (Nat.ble (0 + (n * 30)) (d * 30) && Nat.ble (n + 1) 1048576) (∀ (c2 : Nat), (n + 1 ≤ c2) → ((putK n c d mu hh gg x y) (V.bool (isPO x y)) [(V.agg [(V.sl 1 0 (n + 1) c), (V.sl 7 0 (n + 1) c2), (V.int .i64 mu)]), (V.ints .u64 (c * 20) (spl (0 + (n * 20)) 20 (c * 20) x hh)), (V.ints .u64 (d * 30) gg), (V.ints .u64 20 x), (V.ints .u64 30 y), (V.ints .u64 20 x), (V.ints .u64 30 y), (V.ints .u64 (c2 * 30) (apf (n * 30) 30 (sh 0 gg) y (fun q => (fun _ => (0 : Int)) (q % 30))))])))) ∧ (mB (Nat.ble (n + 1) d) (gB (Nat.ble (0 + (n * 30) + 30) (d * 30)) ((putK n c d mu hh gg x y) (V.bool (isPO x y)) [(V.agg [(V.sl 1 0 (n + 1) c), (V.sl 2 0 (n + 1) d), (V.int .i64 mu)]), (V.ints .u64 (c * 20) (spl (0 + (n * 20)) 20 (c * 20) x hh)), (V.ints .u64 (d * 30) (spl (0 + (n * 30)) 30 (d * 30) y gg)), (V.ints .u64 20 x), (V.ints .u64 30 y), (V.ints .u64 20 x), (V.ints .u64 30 y)])) (gB (Nat.ble (0 + (n * 30)) (d * 30) && Nat.ble (n + 1) 1048576) (∀ (c3 : Nat), (n + 1 ≤ c3) → ((putK n c d mu hh gg x y) (V.bool (isPO x y)) [(V.agg [(V.sl 1 0 (n + 1) c), (V.sl 7 0 (n + 1) c3), (V.int .i64 mu)]), (V.ints .u64 (c * 20) (spl (0 + (n * 20)) 20 (c * 20) x hh)), (V.ints .u64 (d * 30) gg), (V.ints .u64 20 x), (V.ints .u64 30 y), (V.ints .u64 20 x), (V.ints .u64 30 y), (V.ints .u64 (c3 * 30) (apf (n * 30) 30 (sh 0 gg) y (fun q => (fun _ => (0 : Int)) (q % 30))))])))))) (gB (Nat.ble (0 + (n * 20)) (c * 20) && Nat.ble (n + 1) 1048576) (∀ (c1 : Nat), (n + 1 ≤ c1) → ((mB (Nat.ble (n + 1) d) (gB (Nat.ble (0 + (n * 30) + 30) (d * 30)) ((putK n c d mu hh gg x y) (V.bool (isPO x y)) [(V.agg [(V.sl 6 0 (n + 1) c1), (V.sl 2 0 (n + 1) d), (V.int .i64 mu)]), (V.ints .u64 (c * 20) hh), (V.ints .u64 (d * 30) (spl (0 + (n * 30)) 30 (d * 30) y gg)), (V.ints .u64 20 x), (V.ints .u64 30 y), (V.ints .u64 20 x), (V.ints .u64 (c1 * 20) (apf (n * 20) 20 (sh 0 hh) x (fun q => (fun _ => (0 : Int)) (q % 20)))), (V.ints .u64 30 y)])) (gB (Nat.ble (0 + (n * 30)) (d * 30) && Nat.ble (n + 1) 1048576) (∀ (c4 : Nat), (n + 1 ≤ c4) → ((putK n c d mu hh gg x y) (V.bool (isPO x y)) [(V.agg [(V.sl 6 0 (n + 1) c1), (V.sl 8 0 (n + 1) c4), (V.int .i64 mu)]), (V.ints .u64 (c * 20) hh), (V.ints .u64 (d * 30) gg), (V.ints .u64 20 x), (V.ints .u64 30 y), (V.ints .u64 20 x), (V.ints .u64 (c1 * 20) (apf (n * 20) 20 (sh 0 hh) x (fun q => (fun _ => (0 : Int)) (q % 20)))), (V.ints .u64 30 y), (V.ints .u64 (c4 * 30) (apf (n * 30) 30 (sh 0 gg) y (fun q => (fun _ => (0 : Int)) (q % 30))))])))) ∧ (mB (Nat.ble (n + 1) d) (gB (Nat.ble (0 + (n * 30) + 30) (d * 30)) ((putK n c d mu hh gg x y) (V.bool (isPO x y)) [(V.agg [(V.sl 6 0 (n + 1) c1), (V.sl 2 0 (n + 1) d), (V.int .i64 mu)]), (V.ints .u64 (c * 20) hh), (V.ints .u64 (d * 30) (spl (0 + (n * 30)) 30 (d * 30) y gg)), (V.ints .u64 20 x), (V.ints .u64 30 y), (V.ints .u64 20 x), (V.ints .u64 (c1 * 20) (apf (n * 20) 20 (sh 0 hh) x (fun q => (fun _ => (0 : Int)) (q % 20)))), (V.ints .u64 30 y)])) (gB (Nat.ble (0 + (n * 30)) (d * 30) && Nat.ble (n + 1) 1048576) (∀ (c5 : Nat), (n + 1 ≤ c5) → ((putK n c d mu hh gg x y) (V.bool (isPO x y)) [(V.agg [(V.sl 6 0 (n + 1) c1), (V.sl 8 0 (n + 1) c5), (V.int .i64 mu)]), (V.ints .u64 (c * 20) hh), (V.ints .u64 (d * 30) gg), (V.ints .u64 20 x), (V.ints .u64 30 y), (V.ints .u64 20 x), (V.ints .u64 (c1 * 20) (apf (n * 20) 20 (sh 0 hh) x (fun q => (fun _ => (0 : Int)) (q % 20)))), (V.ints .u64 30 y), (V.ints .u64 (c5 * 30) (apf (n * 30) 30 (sh 0 gg) y (fun q => (fun _ => (0 : Int)) (q % 30))))])))))))) ∧ (mB (Nat.ble (n + 1) c) (gB (Nat.ble (0 + (n * 20) + 20) (c * 20)) ((mB (Nat.ble (n + 1) d) (gB (Nat.ble (0 + (n * 30) + 30) (d * 30)) ((putK n c d mu hh gg x y) (V.bool (isPO x y)) [(V.agg [(V.sl 1 0 (n + 1) c), (V.sl 2 0 (n + 1) d), (V.int .i64 mu)]), (V.ints .u64 (c * 20) (spl (0 + (n * 20)) 20 (c * 20) x hh)), (V.ints .u64 (d * 30) (spl (0 + (n * 30)) 30 (d * 30) y gg)), (V.ints .u64 20 x), (V.ints .u64 30 y), (V.ints .u64 20 x), (V.ints .u64 30 y)])) (gB (Nat.ble (0 + (n * 30)) (d * 30) && Nat.ble (n + 1) 1048576) (∀ (c7 : Nat), (n + 1 ≤ c7) → ((putK n c d mu hh gg x y) (V.bool (isPO x y)) [(V.agg [(V.sl 1 0 (n + 1) c), (V.sl 7 0 (n + 1) c7), (V.int .i64 mu)]), (V.ints .u64 (c * 20) (spl (0 + (n * 20)) 20 (c * 20) x hh)), (V.ints .u64 (d * 30) gg), (V.ints .u64 20 x), (V.ints .u64 30 y), (V.ints .u64 20 x), (V.ints .u64 30 y), (V.ints .u64 (c7 * 30) (apf (n * 30) 30 (sh 0 gg) y (fun q => (fun _ => (0 : Int)) (q % 30))))])))) ∧ (mB (Nat.ble (n + 1) d) (gB (Nat.ble (0 + (n * 30) + 30) (d * 30)) ((putK n c d mu hh gg x y) (V.bool (isPO x y)) [(V.agg [(V.sl 1 0 (n + 1) c), (V.sl 2 0 (n + 1) d), (V.int .i64 mu)]), (V.ints .u64 (c * 20) (spl (0 + (n * 20)) 20 (c * 20) x hh)), (V.ints .u64 (d * 30) (spl (0 + (n * 30)) 30 (d * 30) y gg)), (V.ints .u64 20 x), (V.ints .u64 30 y), (V.ints .u64 20 x), (V.ints .u64 30 y)])) (gB (Nat.ble (0 + (n * 30)) (d * 30) && Nat.ble (n + 1) 1048576) (∀ (c8 : Nat), (n + 1 ≤ c8) → ((putK n c d mu hh gg x y) (V.bool (isPO x y)) [(V.agg [(V.sl 1 0 (n + 1) c), (V.sl 7 0 (n + 1) c8), (V.int .i64 mu)]), (V.ints .u64 (c * 20) (spl (0 + (n * 20)) 20 (c * 20) x hh)), (V.ints .u64 (d * 30) gg), (V.ints .u64 20 x), (V.ints .u64 30 y), (V.ints .u64 20 x), (V.ints .u64 30 y), (V.ints .u64 (c8 * 30) (apf (n * 30) 30 (sh 0 gg) y (fun q => (fun _ => (0 : Int)) (q % 30))))])))))) (gB (Nat.ble (0 + (n * 20)) (c * 20) && Nat.ble (n + 1) 1048576) (∀ (c6 : Nat), (n + 1 ≤ c6) → ((mB (Nat.ble (n + 1) d) (gB (Nat.ble (0 + (n * 30) + 30) (d * 30)) ((putK n c d mu hh gg x y) (V.bool (isPO x y)) [(V.agg [(V.sl 6 0 (n + 1) c6), (V.sl 2 0 (n + 1) d), (V.int .i64 mu)]), (V.ints .u64 (c * 20) hh), (V.ints .u64 (d * 30) (spl (0 + (n * 30)) 30 (d * 30) y gg)), (V.ints .u64 20 x), (V.ints .u64 30 y), (V.ints .u64 20 x), (V.ints .u64 (c6 * 20) (apf (n * 20) 20 (sh 0 hh) x (fun q => (fun _ => (0 : Int)) (q % 20)))), (V.ints .u64 30 y)])) (gB (Nat.ble (0 + (n * 30)) (d * 30) && Nat.ble (n + 1) 1048576) (∀ (c9 : Nat), (n + 1 ≤ c9) → ((putK n c d mu hh gg x y) (V.bool (isPO x y)) [(V.agg [(V.sl 6 0 (n + 1) c6), (V.sl 8 0 (n + 1) c9), (V.int .i64 mu)]), (V.ints .u64 (c * 20) hh), (V.ints .u64 (d * 30) gg), (V.ints .u64 20 x), (V.ints .u64 30 y), (V.ints .u64 20 x), (V.ints .u64 (c6 * 20) (apf (n * 20) 20 (sh 0 hh) x (fun q => (fun _ => (0 : Int)) (q % 20)))), (V.ints .u64 30 y), (V.ints .u64 (c9 * 30) (apf (n * 30) 30 (sh 0 gg) y (fun q => (fun _ => (0 : Int)) (q % 30))))])))) ∧ (mB (Nat.ble (n + 1) d) (gB (Nat.ble (0 + (n * 30) + 30) (d * 30)) ((putK n c d mu hh gg x y) (V.bool (isPO x y)) [(V.agg [(V.sl 6 0 (n + 1) c6), (V.sl 2 0 (n + 1) d), (V.int .i64 mu)]), (V.ints .u64 (c * 20) hh), (V.ints .u64 (d * 30) (spl (0 + (n * 30)) 30 (d * 30) y gg)), (V.ints .u64 20 x), (V.ints .u64 30 y), (V.ints .u64 20 x), (V.ints .u64 (c6 * 20) (apf (n * 20) 20 (sh 0 hh) x (fun q => (fun _ => (0 : Int)) (q % 20)))), (V.ints .u64 30 y)])) (gB (Nat.ble (0 + (n * 30)) (d * 30) && Nat.ble (n + 1) 1048576) (∀ (c10 : Nat), (n + 1 ≤ c10) → ((putK n c d mu hh gg x y) (V.bool (isPO x y)) [(V.agg [(V.sl 6 0 (n + 1) c6), (V.sl 8 0 (n + 1) c10), (V.int .i64 mu)]), (V.ints .u64 (c * 20) hh), (V.ints .u64 (d * 30) gg), (V.ints .u64 20 x), (V.ints .u64 30 y), (V.ints .u64 20 x), (V.ints .u64 (c6 * 20) (apf (n * 20) 20 (sh 0 hh) x (fun q => (fun _ => (0 : Int)) (q % 20)))), (V.ints .u64 30 y), (V.ints .u64 (c10 * 30) (apf (n * 30) 30 (sh 0 gg) y (fun q => (fun _ => (0 : Int)) (q % 30))))]))))))))) := by kernel_rfl
abbrev put_Ka0 (n c d : Nat) (mu : Int) (hh gg x y : Nat → Int) : List V → List V → Prop := OkL Try.prog 3 30 [0, 1, 2] (body Try.f80) (ends Try.prog Try.f80 ((putK n c d mu hh gg x y)))
theorem put_all (n c d : Nat) (mu : Int) (hh gg x y : Nat → Int) (hc : n ≤ c) (hd : n ≤ d) (h9 : n ≤ 200) : (put_Ka0 n c d mu hh gg x y) [(vP 0), (V.ints .u64 20 x), (V.ints .u64 30 y)] [(V.agg [(V.sl 1 0 n c), (V.sl 2 0 n d), (V.int .i64 mu)]), (V.ints .u64 (c * 20) hh), (V.ints .u64 (d * 30) gg)] := by
  exact okl_all hM o81O_ok nG_ok (N := 1200) (fun T => Eq.mpr (put_s_s n c d mu hh gg x y T ) ⟨(mBt (fun h0 => (gm (bleT.2 (by first | omega | (have := bleT.1 h0; omega) | (have := bleT.1 h1; omega))) ⟨(mBt (fun h1 => (gm (bleT.2 (by first | omega | (have := bleT.1 h0; omega) | (have := bleT.1 h1; omega))) (put_1 (by have := (bleT.1 h0); have := (bleT.1 h1); exact ⟨put_in (by first | omega | (have := bleT.1 h0; omega) | (have := bleT.1 h1; omega)), put_in (by first | omega | (have := bleT.1 h0; omega) | (have := bleT.1 h1; omega))⟩) (bleT.1 h0) (bleT.1 h1) rfl rfl rfl))) (fun h1 => (gm (both (bleT.2 (by first | omega | (have := bleT.1 h0; omega) | (have := bleT.1 h1; omega))) (bleT.2 (by first | omega | (have := bleT.1 h0; omega) | (have := bleT.1 h1; omega)))) (fun c2 q2 => (put_2 (i := 7) (by first | omega | (have := bleT.1 h0; omega) | (have := bleT.1 h1; omega)) (by have := (bleT.1 h0); exact ⟨put_in (by first | omega | (have := bleT.1 h0; omega) | (have := bleT.1 h1; omega)), put_ap⟩) (bleT.1 h0) (by first | omega | (have := bleT.1 h0; omega) | (have := bleT.1 h1; omega)) rfl rfl rfl rfl))))), (mBt (fun h1 => (gm (bleT.2 (by first | omega | (have := bleT.1 h0; omega) | (have := bleT.1 h1; omega))) (put_1 (by have := (bleT.1 h0); have := (bleT.1 h1); exact ⟨put_in (by first | omega | (have := bleT.1 h0; omega) | (have := bleT.1 h1; omega)), put_in (by first | omega | (have := bleT.1 h0; omega) | (have := bleT.1 h1; omega))⟩) (bleT.1 h0) (bleT.1 h1) rfl rfl rfl))) (fun h1 => (gm (both (bleT.2 (by first | omega | (have := bleT.1 h0; omega) | (have := bleT.1 h1; omega))) (bleT.2 (by first | omega | (have := bleT.1 h0; omega) | (have := bleT.1 h1; omega)))) (fun c3 q2 => (put_2 (i := 7) (by first | omega | (have := bleT.1 h0; omega) | (have := bleT.1 h1; omega)) (by have := (bleT.1 h0); exact ⟨put_in (by first | omega | (have := bleT.1 h0; omega) | (have := bleT.1 h1; omega)), put_ap⟩) (bleT.1 h0) (by first | omega | (have := bleT.1 h0; omega) | (have := bleT.1 h1; omega)) rfl rfl rfl rfl)))))⟩)) (fun h0 => (gm (both (bleT.2 (by first | omega | (have := bleT.1 h0; omega) | (have := bleT.1 h1; omega))) (bleT.2 (by first | omega | (have := bleT.1 h0; omega) | (have := bleT.1 h1; omega)))) (fun c1 q1 => ⟨(mBt (fun h1 => (gm (bleT.2 (by first | omega | (have := bleT.1 h0; omega) | (have := bleT.1 h1; omega))) (put_3 (i := 6) (by first | omega | (have := bleT.1 h0; omega) | (have := bleT.1 h1; omega)) (by have := (bleT.1 h1); exact ⟨put_ap, put_in (by first | omega | (have := bleT.1 h0; omega) | (have := bleT.1 h1; omega))⟩) (bleT.1 h1) (by first | omega | (have := bleT.1 h0; omega) | (have := bleT.1 h1; omega)) rfl rfl rfl rfl))) (fun h1 => (gm (both (bleT.2 (by first | omega | (have := bleT.1 h0; omega) | (have := bleT.1 h1; omega))) (bleT.2 (by first | omega | (have := bleT.1 h0; omega) | (have := bleT.1 h1; omega)))) (fun c4 q2 => (put_4 (i := 6) (k := 8) (by first | omega | (have := bleT.1 h0; omega) | (have := bleT.1 h1; omega)) (by first | omega | (have := bleT.1 h0; omega) | (have := bleT.1 h1; omega)) (by decide) ⟨put_ap, put_ap⟩ (by first | omega | (have := bleT.1 h0; omega) | (have := bleT.1 h1; omega)) (by first | omega | (have := bleT.1 h0; omega) | (have := bleT.1 h1; omega)) rfl rfl rfl rfl rfl))))), (mBt (fun h1 => (gm (bleT.2 (by first | omega | (have := bleT.1 h0; omega) | (have := bleT.1 h1; omega))) (put_3 (i := 6) (by first | omega | (have := bleT.1 h0; omega) | (have := bleT.1 h1; omega)) (by have := (bleT.1 h1); exact ⟨put_ap, put_in (by first | omega | (have := bleT.1 h0; omega) | (have := bleT.1 h1; omega))⟩) (bleT.1 h1) (by first | omega | (have := bleT.1 h0; omega) | (have := bleT.1 h1; omega)) rfl rfl rfl rfl))) (fun h1 => (gm (both (bleT.2 (by first | omega | (have := bleT.1 h0; omega) | (have := bleT.1 h1; omega))) (bleT.2 (by first | omega | (have := bleT.1 h0; omega) | (have := bleT.1 h1; omega)))) (fun c5 q2 => (put_4 (i := 6) (k := 8) (by first | omega | (have := bleT.1 h0; omega) | (have := bleT.1 h1; omega)) (by first | omega | (have := bleT.1 h0; omega) | (have := bleT.1 h1; omega)) (by decide) ⟨put_ap, put_ap⟩ (by first | omega | (have := bleT.1 h0; omega) | (have := bleT.1 h1; omega)) (by first | omega | (have := bleT.1 h0; omega) | (have := bleT.1 h1; omega)) rfl rfl rfl rfl rfl)))))⟩)))), (mBt (fun h0 => (gm (bleT.2 (by first | omega | (have := bleT.1 h0; omega) | (have := bleT.1 h1; omega))) ⟨(mBt (fun h1 => (gm (bleT.2 (by first | omega | (have := bleT.1 h0; omega) | (have := bleT.1 h1; omega))) (put_1 (by have := (bleT.1 h0); have := (bleT.1 h1); exact ⟨put_in (by first | omega | (have := bleT.1 h0; omega) | (have := bleT.1 h1; omega)), put_in (by first | omega | (have := bleT.1 h0; omega) | (have := bleT.1 h1; omega))⟩) (bleT.1 h0) (bleT.1 h1) rfl rfl rfl))) (fun h1 => (gm (both (bleT.2 (by first | omega | (have := bleT.1 h0; omega) | (have := bleT.1 h1; omega))) (bleT.2 (by first | omega | (have := bleT.1 h0; omega) | (have := bleT.1 h1; omega)))) (fun c7 q2 => (put_2 (i := 7) (by first | omega | (have := bleT.1 h0; omega) | (have := bleT.1 h1; omega)) (by have := (bleT.1 h0); exact ⟨put_in (by first | omega | (have := bleT.1 h0; omega) | (have := bleT.1 h1; omega)), put_ap⟩) (bleT.1 h0) (by first | omega | (have := bleT.1 h0; omega) | (have := bleT.1 h1; omega)) rfl rfl rfl rfl))))), (mBt (fun h1 => (gm (bleT.2 (by first | omega | (have := bleT.1 h0; omega) | (have := bleT.1 h1; omega))) (put_1 (by have := (bleT.1 h0); have := (bleT.1 h1); exact ⟨put_in (by first | omega | (have := bleT.1 h0; omega) | (have := bleT.1 h1; omega)), put_in (by first | omega | (have := bleT.1 h0; omega) | (have := bleT.1 h1; omega))⟩) (bleT.1 h0) (bleT.1 h1) rfl rfl rfl))) (fun h1 => (gm (both (bleT.2 (by first | omega | (have := bleT.1 h0; omega) | (have := bleT.1 h1; omega))) (bleT.2 (by first | omega | (have := bleT.1 h0; omega) | (have := bleT.1 h1; omega)))) (fun c8 q2 => (put_2 (i := 7) (by first | omega | (have := bleT.1 h0; omega) | (have := bleT.1 h1; omega)) (by have := (bleT.1 h0); exact ⟨put_in (by first | omega | (have := bleT.1 h0; omega) | (have := bleT.1 h1; omega)), put_ap⟩) (bleT.1 h0) (by first | omega | (have := bleT.1 h0; omega) | (have := bleT.1 h1; omega)) rfl rfl rfl rfl)))))⟩)) (fun h0 => (gm (both (bleT.2 (by first | omega | (have := bleT.1 h0; omega) | (have := bleT.1 h1; omega))) (bleT.2 (by first | omega | (have := bleT.1 h0; omega) | (have := bleT.1 h1; omega)))) (fun c6 q1 => ⟨(mBt (fun h1 => (gm (bleT.2 (by first | omega | (have := bleT.1 h0; omega) | (have := bleT.1 h1; omega))) (put_3 (i := 6) (by first | omega | (have := bleT.1 h0; omega) | (have := bleT.1 h1; omega)) (by have := (bleT.1 h1); exact ⟨put_ap, put_in (by first | omega | (have := bleT.1 h0; omega) | (have := bleT.1 h1; omega))⟩) (bleT.1 h1) (by first | omega | (have := bleT.1 h0; omega) | (have := bleT.1 h1; omega)) rfl rfl rfl rfl))) (fun h1 => (gm (both (bleT.2 (by first | omega | (have := bleT.1 h0; omega) | (have := bleT.1 h1; omega))) (bleT.2 (by first | omega | (have := bleT.1 h0; omega) | (have := bleT.1 h1; omega)))) (fun c9 q2 => (put_4 (i := 6) (k := 8) (by first | omega | (have := bleT.1 h0; omega) | (have := bleT.1 h1; omega)) (by first | omega | (have := bleT.1 h0; omega) | (have := bleT.1 h1; omega)) (by decide) ⟨put_ap, put_ap⟩ (by first | omega | (have := bleT.1 h0; omega) | (have := bleT.1 h1; omega)) (by first | omega | (have := bleT.1 h0; omega) | (have := bleT.1 h1; omega)) rfl rfl rfl rfl rfl))))), (mBt (fun h1 => (gm (bleT.2 (by first | omega | (have := bleT.1 h0; omega) | (have := bleT.1 h1; omega))) (put_3 (i := 6) (by first | omega | (have := bleT.1 h0; omega) | (have := bleT.1 h1; omega)) (by have := (bleT.1 h1); exact ⟨put_ap, put_in (by first | omega | (have := bleT.1 h0; omega) | (have := bleT.1 h1; omega))⟩) (bleT.1 h1) (by first | omega | (have := bleT.1 h0; omega) | (have := bleT.1 h1; omega)) rfl rfl rfl rfl))) (fun h1 => (gm (both (bleT.2 (by first | omega | (have := bleT.1 h0; omega) | (have := bleT.1 h1; omega))) (bleT.2 (by first | omega | (have := bleT.1 h0; omega) | (have := bleT.1 h1; omega)))) (fun c10 q2 => (put_4 (i := 6) (k := 8) (by first | omega | (have := bleT.1 h0; omega) | (have := bleT.1 h1; omega)) (by first | omega | (have := bleT.1 h0; omega) | (have := bleT.1 h1; omega)) (by decide) ⟨put_ap, put_ap⟩ (by first | omega | (have := bleT.1 h0; omega) | (have := bleT.1 h1; omega)) (by first | omega | (have := bleT.1 h0; omega) | (have := bleT.1 h1; omega)) rfl rfl rfl rfl rfl)))))⟩))))⟩)
abbrev pnK (mu : Int) (x y : Nat → Int) (v : V) (m : List V) : Prop := ∃ t, (∃ c1 d1 h1 h2, (1 ≤ c1 ∧ 1 ≤ d1 ∧ (∀ j, j < 20 → h1 j = x j) ∧ ∀ j, j < 30 → h2 j = y j) ∧ t = (⟨.bool (isPO x y), [plV 1 2 1 c1 d1 mu], [.ints .u64 (c1 * 20) h1, .ints .u64 (d1 * 30) h2]⟩ : Go.Ev.Told)) ∧ toldIn 0 1 t v m
theorem pn_mk {mu : Int} {x y h1 h2 : Nat → Int} {c1 d1 i k : Nat} {m : List V} (hi : 1 ≤ i) (hk : 1 ≤ k) (hik : i ≠ k) (hp : 1 ≤ c1 ∧ 1 ≤ d1 ∧ (∀ j, j < 20 → h1 j = x j) ∧ ∀ j, j < 30 → h2 j = y j) (m0 : m[0]? = some (plV i k 1 c1 d1 mu)) (mi : m[i]? = some (.ints .u64 (c1 * 20) h1)) (mk : m[k]? = some (.ints .u64 (d1 * 30) h2)) : pnK mu x y (.bool (isPO x y)) m := by
  refine ⟨_, ⟨c1, d1, h1, h2, hp, rfl⟩, [i, k], rfl, by simp [hik], (fun j hj p hp => by simp at hj; omega), rfl, fun ν κ hk hn => ⟨by simp [V.den], fun j c hc => ?_, fun j c i' hc hi => ?_⟩⟩
  · match j, hc with
    | 0, hc => simp only [List.getElem?_cons_zero, Option.some.injEq] at hc; subst hc; exact ⟨rfl, _, m0, rfl, plV_den (hn 0 i rfl) (hn 1 k rfl)⟩
    | j + 1, hc => simp at hc
  · match j, hc, hi with
    | 0, hc, hi => simp only [List.getElem?_cons_zero, Option.some.injEq] at hc hi; subst hc hi; exact ⟨rfl, _, mi, rfl, ints_d _ _ _ _ _⟩
    | 1, hc, hi => simp only [List.getElem?_cons_succ, List.getElem?_cons_zero, Option.some.injEq] at hc hi; subst hc hi; exact ⟨rfl, _, mk, rfl, ints_d _ _ _ _ _⟩
    | j + 2, hc, _ => simp at hc
theorem ap0 {w : Nat} {f x z : Nat → Int} {j : Nat} (h : j < w) : apf 0 w f x z j = x j := by have := (put_ap (n := 0) (w := w) (f := f) (x := x) (z := z)).2 j h; rw [Nat.zero_mul, Nat.zero_add] at this; exact this
theorem pun_s_s (mu : Int) (x y : Nat → Int) (T : List V) : awq Try.prog o81O nG 1 1200 (body Try.f80) (ends Try.prog Try.f80 ((pnK mu x y))) ⟨ovr 30 [0, 1, 2] [(vP 0), (V.ints .u64 20 x), (V.ints .u64 30 y)] T, [(V.agg [V.snil, V.snil, (V.int .i64 mu)])]⟩ = ((∀ (c1 : Nat), (1 ≤ c1) → ((∀ (c2 : Nat), (1 ≤ c2) → ((pnK mu x y) (V.bool (isPO x y)) [(V.agg [(V.sl 4 0 1 c1), (V.sl 6 0 1 c2), (V.int .i64 mu)]), (V.ints .u64 20 x), (V.ints .u64 30 y), (V.ints .u64 20 x), (V.ints .u64 (c1 * 20) (apf 0 20 (fun _ => 0) x (fun q => (fun _ => (0 : Int)) (q % 20)))), (V.ints .u64 30 y), (V.ints .u64 (c2 * 30) (apf 0 30 (fun _ => 0) y (fun q => (fun _ => (0 : Int)) (q % 30))))])) ∧ (∀ (c3 : Nat), (1 ≤ c3) → ((pnK mu x y) (V.bool (isPO x y)) [(V.agg [(V.sl 4 0 1 c1), (V.sl 6 0 1 c3), (V.int .i64 mu)]), (V.ints .u64 20 x), (V.ints .u64 30 y), (V.ints .u64 20 x), (V.ints .u64 (c1 * 20) (apf 0 20 (fun _ => 0) x (fun q => (fun _ => (0 : Int)) (q % 20)))), (V.ints .u64 30 y), (V.ints .u64 (c3 * 30) (apf 0 30 (fun _ => 0) y (fun q => (fun _ => (0 : Int)) (q % 30))))])))) ∧ (∀ (c4 : Nat), (1 ≤ c4) → ((∀ (c5 : Nat), (1 ≤ c5) → ((pnK mu x y) (V.bool (isPO x y)) [(V.agg [(V.sl 4 0 1 c4), (V.sl 6 0 1 c5), (V.int .i64 mu)]), (V.ints .u64 20 x), (V.ints .u64 30 y), (V.ints .u64 20 x), (V.ints .u64 (c4 * 20) (apf 0 20 (fun _ => 0) x (fun q => (fun _ => (0 : Int)) (q % 20)))), (V.ints .u64 30 y), (V.ints .u64 (c5 * 30) (apf 0 30 (fun _ => 0) y (fun q => (fun _ => (0 : Int)) (q % 30))))])) ∧ (∀ (c6 : Nat), (1 ≤ c6) → ((pnK mu x y) (V.bool (isPO x y)) [(V.agg [(V.sl 4 0 1 c4), (V.sl 6 0 1 c6), (V.int .i64 mu)]), (V.ints .u64 20 x), (V.ints .u64 30 y), (V.ints .u64 20 x), (V.ints .u64 (c4 * 20) (apf 0 20 (fun _ => 0) x (fun q => (fun _ => (0 : Int)) (q % 20)))), (V.ints .u64 30 y), (V.ints .u64 (c6 * 30) (apf 0 30 (fun _ => 0) y (fun q => (fun _ => (0 : Int)) (q % 30))))]))))) := by kernel_rfl
abbrev pun_Ka0 (mu : Int) (x y : Nat → Int) : List V → List V → Prop := OkL Try.prog 1 30 [0, 1, 2] (body Try.f80) (ends Try.prog Try.f80 ((pnK mu x y)))
theorem pun_all (mu : Int) (x y : Nat → Int) : (pun_Ka0 mu x y) [(vP 0), (V.ints .u64 20 x), (V.ints .u64 30 y)] [(V.agg [V.snil, V.snil, (V.int .i64 mu)])] := by
  exact okl_all hM o81O_ok nG_ok (N := 1200) (fun T => Eq.mpr (pun_s_s mu x y T ) ⟨(fun c1 q0 => ⟨(fun c2 q0 => (pn_mk (i := 4) (k := 6) (by omega) (by omega) (by decide) ⟨by omega, by omega, fun j hj => ap0 hj, fun j hj => ap0 hj⟩ rfl rfl rfl)), (fun c3 q0 => (pn_mk (i := 4) (k := 6) (by omega) (by omega) (by decide) ⟨by omega, by omega, fun j hj => ap0 hj, fun j hj => ap0 hj⟩ rfl rfl rfl))⟩), (fun c4 q0 => ⟨(fun c5 q0 => (pn_mk (i := 4) (k := 6) (by omega) (by omega) (by decide) ⟨by omega, by omega, fun j hj => ap0 hj, fun j hj => ap0 hj⟩ rfl rfl rfl)), (fun c6 q0 => (pn_mk (i := 4) (k := 6) (by omega) (by omega) (by decide) ⟨by omega, by omega, fun j hj => ap0 hj, fun j hj => ap0 hj⟩ rfl rfl rfl))⟩)⟩)
end Go.Proofs.Ytbnclikjbnfodaa

/-
  at and put as callees. Conditions: none.
-/
namespace Go.Proofs.Ytbnclikjbnfodaa
open Go.Ev Go.Num
set_option linter.unusedVariables false
set_option linter.unusedSimpArgs false
noncomputable def G79 (G : GOrc) : GOrc := extG 79 (fun vs m K => match vs with
  | [.ptr p 0, .int .i64 ix] => match m[p]? with
    | some (.agg [.sl a 0 _ _, .sl b 0 _ _, .int .i64 _]) => match viewO [] [p, a, b] [.ptr p 0, .int .i64 ix] m with
      | some ([.ptr 0 0, .int .i64 _], [.agg [.sl 1 0 n c, .sl 2 0 n2 d, .int .i64 mu], .ints .u64 C hh, .ints .u64 D gg]) =>
        (n2 = n ∧ C = c * 20 ∧ D = d * 30 ∧ 0 < n ∧ n ≤ 200) ∧ ∀ k : Int, (0 ≤ k ∧ k < (n : Nat)) → K (.int .i64 k) (setO m [p, a, b] [plV a b n c d mu, .ints .u64 (c * 20) hh, .ints .u64 (d * 30) gg])
      | _ => False
    | _ => False
  | _ => False) G
theorem G79_ok {G : GOrc} (hG : GOrcOK Try.prog G) : GOrcOK Try.prog (G79 G) := by
  refine extG_ok hG fun vs m K h => ?_
  split at h
  · rename_i p ix
    split at h
    · rename_i a _ _ b _ _ _ hm
      split at h
      · rename_i ix2 n c n2 d mu C hh D gg hv
        obtain ⟨⟨rfl, rfl, rfl, h0, h9⟩, h⟩ := h
        exact gens_okl Try.func79 (by kernel_rfl) (by kernel_rfl) (own := [_, _, _]) hv (T := atT _ c d mu hh gg) (fun v m' hk => hk) (att_all _ c d mu hh gg ix2 h0 h9) (Nat.le_of_ble_eq_true (by kernel_rfl)) (by kernel_rfl) rfl (fun t ht => by
          obtain ⟨k, hk, rfl⟩ := ht
          have := h k hk
          rw [← List.append_nil (setO _ _ _)] at this
          exact this)
      · exact h.elim
    · exact h.elim
  · exact h.elim
/-- The four ends of a call that lays h1, h2 into the lists or into new ones. -/
def Put4 (m : List V) (p a b n c d : Nat) (mu : Int) (o1 o2 h1 h2 : Nat → Int) (K : List V → Prop) : Prop :=
  ((n ≤ c ∧ n ≤ d) → K (setO m [p, a, b] [plV a b n c d mu, .ints .u64 (c * 20) h1, .ints .u64 (d * 30) h2])) ∧
  (∀ d1 : Nat, (n ≤ c ∧ n ≤ d1) → K (setO m [p, a, b] [plV a m.length n c d1 mu, .ints .u64 (c * 20) h1, .ints .u64 (d * 30) o2] ++ [.ints .u64 (d1 * 30) h2])) ∧
  (∀ c1 : Nat, (n ≤ c1 ∧ n ≤ d) → K (setO m [p, a, b] [plV m.length b n c1 d mu, .ints .u64 (c * 20) o1, .ints .u64 (d * 30) h2] ++ [.ints .u64 (c1 * 20) h1])) ∧
  ∀ c1 d1 : Nat, (n ≤ c1 ∧ n ≤ d1) → K (setO m [p, a, b] [plV m.length (m.length + 1) n c1 d1 mu, .ints .u64 (c * 20) o1, .ints .u64 (d * 30) o2] ++ [.ints .u64 (c1 * 20) h1, .ints .u64 (d1 * 30) h2])
noncomputable def G80 (G : GOrc) : GOrc := extG 80 (fun vs m K => match vs with
  | [.ptr p 0, .ints .u64 20 x, .ints .u64 30 y] => match m[p]? with
    | some (.agg [.sl a 0 _ _, .sl b 0 _ _, .int .i64 _]) => match viewO [] [p, a, b] [.ptr p 0, .ints .u64 20 x, .ints .u64 30 y] m with
      | some ([.ptr 0 0, .ints .u64 20 x, .ints .u64 30 y], [.agg [.sl 1 0 n c, .sl 2 0 n2 d, .int .i64 mu], .ints .u64 C hh, .ints .u64 D gg]) =>
        (n2 = n ∧ (C = c * 20 ∧ D = d * 30) ∧ n ≤ c ∧ n ≤ d ∧ n ≤ 200) ∧ ∀ h1 h2 : Nat → Int, (PutR n 20 hh x h1 ∧ PutR n 30 gg y h2) → Put4 m p a b (n + 1) c d mu hh gg h1 h2 (K (.bool (isPO x y)))
      | _ => False
    | some (.agg [.snil, .snil, .int .i64 _]) => match viewO [] [p] [.ptr p 0, .ints .u64 20 x, .ints .u64 30 y] m with
      | some ([.ptr 0 0, .ints .u64 20 x, .ints .u64 30 y], [.agg [.snil, .snil, .int .i64 mu]]) =>
        ∀ (c1 d1 : Nat), ∀ h1 h2 : Nat → Int, (1 ≤ c1 ∧ 1 ≤ d1 ∧ (∀ j, j < 20 → h1 j = x j) ∧ ∀ j, j < 30 → h2 j = y j) → K (.bool (isPO x y)) (setO m [p] [plV m.length (m.length + 1) 1 c1 d1 mu] ++ [.ints .u64 (c1 * 20) h1, .ints .u64 (d1 * 30) h2])
      | _ => False
    | _ => False
  | _ => False) G
theorem G80_ok {G : GOrc} (hG : GOrcOK Try.prog G) : GOrcOK Try.prog (G80 G) := by
  refine extG_ok hG fun vs m K h => ?_
  split at h
  · rename_i p x y
    split at h
    · rename_i a _ _ b _ _ _ hm
      split at h
      · rename_i x2 y2 n c n2 d mu C hh D gg hv
        obtain ⟨⟨rfl, ⟨rfl, rfl⟩, hc, hd, h9⟩, h⟩ := h
        exact gens_okl Try.func80 (by kernel_rfl) (by kernel_rfl) (own := [_, _, _]) hv (T := putT _ c d mu hh gg x2 y2) (fun v m' hk => hk) (put_all _ c d mu hh gg x2 y2 hc hd h9) (Nat.le_of_ble_eq_true (by kernel_rfl)) (by kernel_rfl) rfl (fun t ht => by
          obtain ⟨h1, h2, hp, ht⟩ := ht
          obtain ⟨k1, k2, k3, k4⟩ := h h1 h2 hp
          rcases ht with ⟨q1, q2, rfl⟩ | ⟨q1, d1, q2, rfl⟩ | ⟨q1, c1, q2, rfl⟩ | ⟨c1, d1, q1, q2, rfl⟩
          · have := k1 ⟨q1, q2⟩
            rw [← List.append_nil (setO _ _ _)] at this
            exact this
          · exact k2 d1 ⟨q1, q2⟩
          · exact k3 c1 ⟨q2, q1⟩
          · exact k4 c1 d1 ⟨q1, q2⟩)
      · exact h.elim
    · split at h
      · rename_i x2 y2 mu hv
        exact gens_okl Try.func80 (by kernel_rfl) (by kernel_rfl) (own := [_]) hv (fun v m' hk => hk) (pun_all mu x2 y2) (Nat.le_of_ble_eq_true (by kernel_rfl)) (by kernel_rfl) rfl (fun t ht => by
          obtain ⟨c1, d1, h1, h2, hp, rfl⟩ := ht
          exact h c1 d1 h1 h2 hp)
      · exact h.elim
    · exact h.elim
  · exact h.elim
/-- The play's points: each of the program's is a form of the document's. -/
def PlayI (n : Nat) (hh gg : Nat → Int) : Prop := ∀ j, j < n → ∃ A, Fm (sh (20 * j) hh) A ∧ Rm (sh (30 * j) gg) A
theorem PlayI.get {n : Nat} {hh gg : Nat → Int} (h : PlayI n hh gg) {k : Int} (hk : 0 ≤ k ∧ k < (n : Nat)) : ∃ A, Fm (sh (0 + (Int.toNat k * 20)) hh) A ∧ Rm (sh (0 + (Int.toNat k * 30)) gg) A := by
  have := h (Int.toNat k) (by omega)
  rwa [show 0 + (Int.toNat k * 20) = 20 * Int.toNat k by omega, show 0 + (Int.toNat k * 30) = 30 * Int.toNat k by omega]
theorem PlayI.put {n : Nat} {hh gg x y h1 h2 : Nat → Int} (h : PlayI n hh gg) (hp : PutR n 20 hh x h1 ∧ PutR n 30 gg y h2) {A : Pn} (hx : Fm x A) (hy : Rm y A) : PlayI (n + 1) h1 h2 := by
  obtain ⟨⟨p1, p2⟩, p3, p4⟩ := hp
  intro j hj
  by_cases e : j = n
  · subst e
    exact ⟨A, hx.congr fun i hi => by rw [sh_at, Nat.mul_comm]; exact p2 i hi, hy.congr fun i hi => by rw [sh_at, Nat.mul_comm]; exact p4 i hi⟩
  · obtain ⟨B, hB, hC⟩ := h j (by omega)
    exact ⟨B, hB.congr fun i hi => by rw [sh_at, sh_at]; exact p1 _ (by omega), hC.congr fun i hi => by rw [sh_at, sh_at]; exact p3 _ (by omega)⟩
theorem PlayI.one {h1 h2 x y : Nat → Int} (hp : (∀ j, j < 20 → h1 j = x j) ∧ ∀ j, j < 30 → h2 j = y j) {A : Pn} (hx : Fm x A) (hy : Rm y A) : PlayI 1 h1 h2 := by
  intro j hj
  obtain rfl : j = 0 := by omega
  exact ⟨A, hx.congr fun i hi => hp.1 i hi, hy.congr fun i hi => hp.2 i hi⟩
end Go.Proofs.Ytbnclikjbnfodaa
