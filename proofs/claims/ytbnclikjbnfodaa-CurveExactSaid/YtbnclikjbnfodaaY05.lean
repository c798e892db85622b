/-
  A part of the groundwork of this seat's claims: an evaluator over the program, walks, and plain mathematics. Conditions: none.
-/
import Derived.Test.YtbnclikjbnfodaaY04
namespace Go.Proofs.Ytbnclikjbnfodaa
open Go.Ev
theorem fromBytesFO_ex : ∃ f : (Nat → Int) → (Nat → Int), f = fromBytesF := ⟨_, rfl⟩
/-- fromBytesF, by a name that is not unfolded. -/
noncomputable def fromBytesFO : (Nat → Int) → (Nat → Int) := Classical.choose fromBytesFO_ex
theorem fromBytesFO_eq : fromBytesFO = fromBytesF := Classical.choose_spec fromBytesFO_ex
noncomputable def g35O : List V → Option (Bool × V) := fun | [.ints .u8 32 b] => some (true, (V.ints .u64 5 (fromBytesFO b))) | _ => none
theorem g35O_ok (vs : List V) (v : V) (h : g35O vs = some (true, v)) : (∀ μ μ', v.den μ' = v.den μ) ∧ ∀ μ w, PureAt Try.prog 35 (vs.map (V.den μ)).toArray (v.den μ) w := by
  unfold g35O at h
  split at h
  · simp only [Option.some.injEq, Prod.mk.injEq, true_and] at h
    subst h
    rw [fromBytesFO_eq]
    exact fromBytesF_p _
  · simp at h
noncomputable def o35O : Orc := ext 35 g35O o53O
theorem o35O_ok : OrcOK Try.prog o35O := ext_ok o53O_ok g35O_ok

theorem rFromBytesO_ex : ∃ f : (Nat → Int) → (Nat → Int), f = rFromBytes := ⟨_, rfl⟩
/-- rFromBytes, by a name that is not unfolded. -/
noncomputable def rFromBytesO : (Nat → Int) → (Nat → Int) := Classical.choose rFromBytesO_ex
theorem rFromBytesO_eq : rFromBytesO = rFromBytes := Classical.choose_spec rFromBytesO_ex
noncomputable def g36O : List V → Option (Bool × V) := fun | [.ints .u8 32 b] => some (true, (V.ints .u64 10 (rFromBytesO b))) | _ => none
theorem g36O_ok (vs : List V) (v : V) (h : g36O vs = some (true, v)) : (∀ μ μ', v.den μ' = v.den μ) ∧ ∀ μ w, PureAt Try.prog 36 (vs.map (V.den μ)).toArray (v.den μ) w := by
  unfold g36O at h
  split at h
  · simp only [Option.some.injEq, Prod.mk.injEq, true_and] at h
    subst h
    rw [rFromBytesO_eq]
    exact rFromBytes_p _
  · simp at h
noncomputable def o36O : Orc := ext 36 g36O o35O
theorem o36O_ok : OrcOK Try.prog o36O := ext_ok o35O_ok g36O_ok

theorem canonicalFO_ex : ∃ f : (Nat → Int) → Bool, f = canonicalF := ⟨_, rfl⟩
/-- canonicalF, by a name that is not unfolded. -/
noncomputable def canonicalFO : (Nat → Int) → Bool := Classical.choose canonicalFO_ex
theorem canonicalFO_eq : canonicalFO = canonicalF := Classical.choose_spec canonicalFO_ex
noncomputable def g37O : List V → Option (Bool × V) := fun | [.ints .u8 32 b] => some (true, (V.bool (canonicalFO b))) | _ => none
theorem g37O_ok (vs : List V) (v : V) (h : g37O vs = some (true, v)) : (∀ μ μ', v.den μ' = v.den μ) ∧ ∀ μ w, PureAt Try.prog 37 (vs.map (V.den μ)).toArray (v.den μ) w := by
  unfold g37O at h
  split at h
  · simp only [Option.some.injEq, Prod.mk.injEq, true_and] at h
    subst h
    rw [canonicalFO_eq]
    exact canonicalF_p _
  · simp at h
noncomputable def o37O : Orc := ext 37 g37O o36O
theorem o37O_ok : OrcOK Try.prog o37O := ext_ok o36O_ok g37O_ok

theorem rCanonicalO_ex : ∃ f : (Nat → Int) → Bool, f = rCanonical := ⟨_, rfl⟩
/-- rCanonical, by a name that is not unfolded. -/
noncomputable def rCanonicalO : (Nat → Int) → Bool := Classical.choose rCanonicalO_ex
theorem rCanonicalO_eq : rCanonicalO = rCanonical := Classical.choose_spec rCanonicalO_ex
noncomputable def g38O : List V → Option (Bool × V) := fun | [.ints .u8 32 b] => some (true, (V.bool (rCanonicalO b))) | _ => none
theorem g38O_ok (vs : List V) (v : V) (h : g38O vs = some (true, v)) : (∀ μ μ', v.den μ' = v.den μ) ∧ ∀ μ w, PureAt Try.prog 38 (vs.map (V.den μ)).toArray (v.den μ) w := by
  unfold g38O at h
  split at h
  · simp only [Option.some.injEq, Prod.mk.injEq, true_and] at h
    subst h
    rw [rCanonicalO_eq]
    exact rCanonical_p _
  · simp at h
noncomputable def o38O : Orc := ext 38 g38O o37O
theorem o38O_ok : OrcOK Try.prog o38O := ext_ok o37O_ok g38O_ok

theorem bytesFO_ex : ∃ f : (Nat → Int) → (Nat → Int), f = bytesF := ⟨_, rfl⟩
/-- bytesF, by a name that is not unfolded. -/
noncomputable def bytesFO : (Nat → Int) → (Nat → Int) := Classical.choose bytesFO_ex
theorem bytesFO_eq : bytesFO = bytesF := Classical.choose_spec bytesFO_ex
noncomputable def g39O : List V → Option (Bool × V) := fun | [.ints .u64 5 x] => some (true, (V.ints .u8 32 (bytesFO x))) | _ => none
theorem g39O_ok (vs : List V) (v : V) (h : g39O vs = some (true, v)) : (∀ μ μ', v.den μ' = v.den μ) ∧ ∀ μ w, PureAt Try.prog 39 (vs.map (V.den μ)).toArray (v.den μ) w := by
  unfold g39O at h
  split at h
  · simp only [Option.some.injEq, Prod.mk.injEq, true_and] at h
    subst h
    rw [bytesFO_eq]
    exact bytesF_p _
  · simp at h
noncomputable def o39O : Orc := ext 39 g39O o38O
theorem o39O_ok : OrcOK Try.prog o39O := ext_ok o38O_ok g39O_ok

theorem rBytesO_ex : ∃ f : (Nat → Int) → (Nat → Int), f = rBytes := ⟨_, rfl⟩
/-- rBytes, by a name that is not unfolded. -/
noncomputable def rBytesO : (Nat → Int) → (Nat → Int) := Classical.choose rBytesO_ex
theorem rBytesO_eq : rBytesO = rBytes := Classical.choose_spec rBytesO_ex
noncomputable def g40O : List V → Option (Bool × V) := fun | [.ints .u64 10 a] => some (true, (V.ints .u8 32 (rBytesO a))) | _ => none
theorem g40O_ok (vs : List V) (v : V) (h : g40O vs = some (true, v)) : (∀ μ μ', v.den μ' = v.den μ) ∧ ∀ μ w, PureAt Try.prog 40 (vs.map (V.den μ)).toArray (v.den μ) w := by
  unfold g40O at h
  split at h
  · simp only [Option.some.injEq, Prod.mk.injEq, true_and] at h
    subst h
    rw [rBytesO_eq]
    exact rBytes_p _
  · simp at h
noncomputable def o40O : Orc := ext 40 g40O o39O
theorem o40O_ok : OrcOK Try.prog o40O := ext_ok o39O_ok g40O_ok

theorem rAddO_ex : ∃ f : (Nat → Int) → (Nat → Int) → (Nat → Int), f = rAdd := ⟨_, rfl⟩
/-- rAdd, by a name that is not unfolded. -/
noncomputable def rAddO : (Nat → Int) → (Nat → Int) → (Nat → Int) := Classical.choose rAddO_ex
theorem rAddO_eq : rAddO = rAdd := Classical.choose_spec rAddO_ex
noncomputable def g30O : List V → Option (Bool × V) := fun | [.ints .u64 10 a, .ints .u64 10 b] => some (true, (V.ints .u64 10 (rAddO a b))) | _ => none
theorem g30O_ok (vs : List V) (v : V) (h : g30O vs = some (true, v)) : (∀ μ μ', v.den μ' = v.den μ) ∧ ∀ μ w, PureAt Try.prog 30 (vs.map (V.den μ)).toArray (v.den μ) w := by
  unfold g30O at h
  split at h
  · simp only [Option.some.injEq, Prod.mk.injEq, true_and] at h
    subst h
    rw [rAddO_eq]
    exact rAdd_p _ _
  · simp at h
noncomputable def o30O : Orc := ext 30 g30O o40O
theorem o30O_ok : OrcOK Try.prog o30O := ext_ok o40O_ok g30O_ok

theorem rSubO_ex : ∃ f : (Nat → Int) → (Nat → Int) → (Nat → Int), f = rSub := ⟨_, rfl⟩
/-- rSub, by a name that is not unfolded. -/
noncomputable def rSubO : (Nat → Int) → (Nat → Int) → (Nat → Int) := Classical.choose rSubO_ex
theorem rSubO_eq : rSubO = rSub := Classical.choose_spec rSubO_ex
noncomputable def g32O : List V → Option (Bool × V) := fun | [.ints .u64 10 a, .ints .u64 10 b] => some (true, (V.ints .u64 10 (rSubO a b))) | _ => none
theorem g32O_ok (vs : List V) (v : V) (h : g32O vs = some (true, v)) : (∀ μ μ', v.den μ' = v.den μ) ∧ ∀ μ w, PureAt Try.prog 32 (vs.map (V.den μ)).toArray (v.den μ) w := by
  unfold g32O at h
  split at h
  · simp only [Option.some.injEq, Prod.mk.injEq, true_and] at h
    subst h
    rw [rSubO_eq]
    exact rSub_p _ _
  · simp at h
noncomputable def o32O : Orc := ext 32 g32O o30O
theorem o32O_ok : OrcOK Try.prog o32O := ext_ok o30O_ok g32O_ok

/- curve.unit -/
noncomputable def unitF : (Nat → Int) := (L [1, 0, 0, 0, 0])
theorem unitF_t : awp Try.prog o32O noG 300 (body Try.f93) (ends Try.prog Try.f93 fun v _ => okV (V.ints .u64 5 unitF) v) ⟨[] ++ List.replicate 2 V.un, []⟩ = ((V.ints .u64 5 unitF).den z0 = (V.ints .u64 5 unitF).den z0) := by kernel_rfl
theorem unitF_a : awp Try.prog o32O noG 300 (body Try.f93) (ends Try.prog Try.f93 fun v _ => okV (V.ints .u64 5 unitF) v) ⟨[] ++ List.replicate 2 V.un, []⟩ := by rw [unitF_t]
noncomputable def g93 : List V → Option (Bool × V) := fun | [] => some (true, (V.ints .u64 5 unitF)) | _ => none
theorem unitF_p : (∀ μ μ', V.den μ' (V.ints .u64 5 unitF) = V.den μ (V.ints .u64 5 unitF)) ∧ ∀ μ w, PureAt Try.prog 93 (([] : List V).map (V.den μ)).toArray (V.den μ (V.ints .u64 5 unitF)) w :=
  pure_ok (F := o32O) (N := 300) (fn := Try.f93) (args := []) (r := (V.ints .u64 5 unitF)) (n := 2) hM o32O_ok (noG_ok _) Try.func93 (by kernel_rfl) (by kernel_rfl) (by kernel_rfl) (by kernel_rfl) (unitF_a) (by kernel_rfl)
theorem g93_ok (vs : List V) (v : V) (h : g93 vs = some (true, v)) : (∀ μ μ', v.den μ' = v.den μ) ∧ ∀ μ w, PureAt Try.prog 93 (vs.map (V.den μ)).toArray (v.den μ) w := by
  unfold g93 at h
  split at h
  · simp only [Option.some.injEq, Prod.mk.injEq, true_and] at h
    subst h
    exact unitF_p
  · simp at h
noncomputable def o93 : Orc := ext 93 g93 o32O
theorem o93_ok : OrcOK Try.prog o93 := ext_ok o32O_ok g93_ok

theorem unitFO_ex : ∃ f : (Nat → Int), f = unitF := ⟨_, rfl⟩
/-- unitF, by a name that is not unfolded. -/
noncomputable def unitFO : (Nat → Int) := Classical.choose unitFO_ex
theorem unitFO_eq : unitFO = unitF := Classical.choose_spec unitFO_ex
noncomputable def g93O : List V → Option (Bool × V) := fun | [] => some (true, (V.ints .u64 5 unitFO)) | _ => none
theorem g93O_ok (vs : List V) (v : V) (h : g93O vs = some (true, v)) : (∀ μ μ', v.den μ' = v.den μ) ∧ ∀ μ w, PureAt Try.prog 93 (vs.map (V.den μ)).toArray (v.den μ) w := by
  unfold g93O at h
  split at h
  · simp only [Option.some.injEq, Prod.mk.injEq, true_and] at h
    subst h
    rw [unitFO_eq]
    exact unitF_p
  · simp at h
noncomputable def o93O : Orc := ext 93 g93O o93
theorem o93O_ok : OrcOK Try.prog o93O := ext_ok o93_ok g93O_ok

/- curve.limbs -/
noncomputable def limbsF : (Nat → Int) := (L [929955233495203, 466365720129213, 1662059464998953, 2033849074728123, 1442794654840575])
theorem limbsF_t : awp Try.prog o93O noG 300 (body Try.f94) (ends Try.prog Try.f94 fun v _ => okV (V.ints .u64 5 limbsF) v) ⟨[] ++ List.replicate 2 V.un, []⟩ = ((V.ints .u64 5 limbsF).den z0 = (V.ints .u64 5 limbsF).den z0) := by kernel_rfl
theorem limbsF_a : awp Try.prog o93O noG 300 (body Try.f94) (ends Try.prog Try.f94 fun v _ => okV (V.ints .u64 5 limbsF) v) ⟨[] ++ List.replicate 2 V.un, []⟩ := by rw [limbsF_t]
noncomputable def g94 : List V → Option (Bool × V) := fun | [] => some (true, (V.ints .u64 5 limbsF)) | _ => none
theorem limbsF_p : (∀ μ μ', V.den μ' (V.ints .u64 5 limbsF) = V.den μ (V.ints .u64 5 limbsF)) ∧ ∀ μ w, PureAt Try.prog 94 (([] : List V).map (V.den μ)).toArray (V.den μ (V.ints .u64 5 limbsF)) w :=
  pure_ok (F := o93O) (N := 300) (fn := Try.f94) (args := []) (r := (V.ints .u64 5 limbsF)) (n := 2) hM o93O_ok (noG_ok _) Try.func94 (by kernel_rfl) (by kernel_rfl) (by kernel_rfl) (by kernel_rfl) (limbsF_a) (by kernel_rfl)
theorem g94_ok (vs : List V) (v : V) (h : g94 vs = some (true, v)) : (∀ μ μ', v.den μ' = v.den μ) ∧ ∀ μ w, PureAt Try.prog 94 (vs.map (V.den μ)).toArray (v.den μ) w := by
  unfold g94 at h
  split at h
  · simp only [Option.some.injEq, Prod.mk.injEq, true_and] at h
    subst h
    exact limbsF_p
  · simp at h
noncomputable def o94 : Orc := ext 94 g94 o93O
theorem o94_ok : OrcOK Try.prog o94 := ext_ok o93O_ok g94_ok

theorem limbsFO_ex : ∃ f : (Nat → Int), f = limbsF := ⟨_, rfl⟩
/-- limbsF, by a name that is not unfolded. -/
noncomputable def limbsFO : (Nat → Int) := Classical.choose limbsFO_ex
theorem limbsFO_eq : limbsFO = limbsF := Classical.choose_spec limbsFO_ex
noncomputable def g94O : List V → Option (Bool × V) := fun | [] => some (true, (V.ints .u64 5 limbsFO)) | _ => none
theorem g94O_ok (vs : List V) (v : V) (h : g94O vs = some (true, v)) : (∀ μ μ', v.den μ' = v.den μ) ∧ ∀ μ w, PureAt Try.prog 94 (vs.map (V.den μ)).toArray (v.den μ) w := by
  unfold g94O at h
  split at h
  · simp only [Option.some.injEq, Prod.mk.injEq, true_and] at h
    subst h
    rw [limbsFO_eq]
    exact limbsF_p
  · simp at h
noncomputable def o94O : Orc := ext 94 g94O o94
theorem o94O_ok : OrcOK Try.prog o94O := ext_ok o94_ok g94O_ok

/- curve.doubled -/
noncomputable def doubledF : (Nat → Int) := (L [1859910466990425, 932731440258426, 1072319116312658, 1815898335770999, 633789495995903])
theorem doubledF_t : awp Try.prog o94O noG 300 (body Try.f104) (ends Try.prog Try.f104 fun v _ => okV (V.ints .u64 5 doubledF) v) ⟨[] ++ List.replicate 2 V.un, []⟩ = ((V.ints .u64 5 doubledF).den z0 = (V.ints .u64 5 doubledF).den z0) := by kernel_rfl
theorem doubledF_a : awp Try.prog o94O noG 300 (body Try.f104) (ends Try.prog Try.f104 fun v _ => okV (V.ints .u64 5 doubledF) v) ⟨[] ++ List.replicate 2 V.un, []⟩ := by rw [doubledF_t]
noncomputable def g104 : List V → Option (Bool × V) := fun | [] => some (true, (V.ints .u64 5 doubledF)) | _ => none
theorem doubledF_p : (∀ μ μ', V.den μ' (V.ints .u64 5 doubledF) = V.den μ (V.ints .u64 5 doubledF)) ∧ ∀ μ w, PureAt Try.prog 104 (([] : List V).map (V.den μ)).toArray (V.den μ (V.ints .u64 5 doubledF)) w :=
  pure_ok (F := o94O) (N := 300) (fn := Try.f104) (args := []) (r := (V.ints .u64 5 doubledF)) (n := 2) hM o94O_ok (noG_ok _) Try.func104 (by kernel_rfl) (by kernel_rfl) (by kernel_rfl) (by kernel_rfl) (doubledF_a) (by kernel_rfl)
theorem g104_ok (vs : List V) (v : V) (h : g104 vs = some (true, v)) : (∀ μ μ', v.den μ' = v.den μ) ∧ ∀ μ w, PureAt Try.prog 104 (vs.map (V.den μ)).toArray (v.den μ) w := by
  unfold g104 at h
  split at h
  · simp only [Option.some.injEq, Prod.mk.injEq, true_and] at h
    subst h
    exact doubledF_p
  · simp at h
noncomputable def o104 : Orc := ext 104 g104 o94O
theorem o104_ok : OrcOK Try.prog o104 := ext_ok o94O_ok g104_ok

theorem doubledFO_ex : ∃ f : (Nat → Int), f = doubledF := ⟨_, rfl⟩
/-- doubledF, by a name that is not unfolded. -/
noncomputable def doubledFO : (Nat → Int) := Classical.choose doubledFO_ex
theorem doubledFO_eq : doubledFO = doubledF := Classical.choose_spec doubledFO_ex
noncomputable def g104O : List V → Option (Bool × V) := fun | [] => some (true, (V.ints .u64 5 doubledFO)) | _ => none
theorem g104O_ok (vs : List V) (v : V) (h : g104O vs = some (true, v)) : (∀ μ μ', v.den μ' = v.den μ) ∧ ∀ μ w, PureAt Try.prog 104 (vs.map (V.den μ)).toArray (v.den μ) w := by
  unfold g104O at h
  split at h
  · simp only [Option.some.injEq, Prod.mk.injEq, true_and] at h
    subst h
    rw [doubledFO_eq]
    exact doubledF_p
  · simp at h
noncomputable def o104O : Orc := ext 104 g104O o104
theorem o104O_ok : OrcOK Try.prog o104O := ext_ok o104_ok g104O_ok

/- curve.number -/
noncomputable def numberF : (Nat → Int) := (fromBytesFO (up 31 82 (up 30 3 (up 29 108 (up 28 238 (up 27 43 (up 26 111 (up 25 254 (up 24 115 (up 23 140 (up 22 199 (up 21 64 (up 20 121 (up 19 119 (up 18 121 (up 17 232 (up 16 152 (up 15 0 (up 14 112 (up 13 10 (up 12 77 (up 11 65 (up 10 65 (up 9 216 (up 8 171 (up 7 117 (up 6 235 (up 5 77 (up 4 202 (up 3 19 (up 2 89 (up 1 120 (up 0 163 (fun _ => 0))))))))))))))))))))))))))))))))))
theorem numberF_t : awp Try.prog o104O noG 300 (body Try.f103) (ends Try.prog Try.f103 fun v _ => okV (V.ints .u64 5 numberF) v) ⟨[] ++ List.replicate 3 V.un, []⟩ = ((V.ints .u64 5 numberF).den z0 = (V.ints .u64 5 numberF).den z0) := by kernel_rfl
theorem numberF_a : awp Try.prog o104O noG 300 (body Try.f103) (ends Try.prog Try.f103 fun v _ => okV (V.ints .u64 5 numberF) v) ⟨[] ++ List.replicate 3 V.un, []⟩ := by rw [numberF_t]
noncomputable def g103 : List V → Option (Bool × V) := fun | [] => some (true, (V.ints .u64 5 numberF)) | _ => none
theorem numberF_p : (∀ μ μ', V.den μ' (V.ints .u64 5 numberF) = V.den μ (V.ints .u64 5 numberF)) ∧ ∀ μ w, PureAt Try.prog 103 (([] : List V).map (V.den μ)).toArray (V.den μ (V.ints .u64 5 numberF)) w :=
  pure_ok (F := o104O) (N := 300) (fn := Try.f103) (args := []) (r := (V.ints .u64 5 numberF)) (n := 3) hM o104O_ok (noG_ok _) Try.func103 (by kernel_rfl) (by kernel_rfl) (by kernel_rfl) (by kernel_rfl) (numberF_a) (by kernel_rfl)
theorem g103_ok (vs : List V) (v : V) (h : g103 vs = some (true, v)) : (∀ μ μ', v.den μ' = v.den μ) ∧ ∀ μ w, PureAt Try.prog 103 (vs.map (V.den μ)).toArray (v.den μ) w := by
  unfold g103 at h
  split at h
  · simp only [Option.some.injEq, Prod.mk.injEq, true_and] at h
    subst h
    exact numberF_p
  · simp at h
noncomputable def o103 : Orc := ext 103 g103 o104O
theorem o103_ok : OrcOK Try.prog o103 := ext_ok o104O_ok g103_ok

theorem numberFO_ex : ∃ f : (Nat → Int), f = numberF := ⟨_, rfl⟩
/-- numberF, by a name that is not unfolded. -/
noncomputable def numberFO : (Nat → Int) := Classical.choose numberFO_ex
theorem numberFO_eq : numberFO = numberF := Classical.choose_spec numberFO_ex
noncomputable def g103O : List V → Option (Bool × V) := fun | [] => some (true, (V.ints .u64 5 numberFO)) | _ => none
theorem g103O_ok (vs : List V) (v : V) (h : g103O vs = some (true, v)) : (∀ μ μ', v.den μ' = v.den μ) ∧ ∀ μ w, PureAt Try.prog 103 (vs.map (V.den μ)).toArray (v.den μ) w := by
  unfold g103O at h
  split at h
  · simp only [Option.some.injEq, Prod.mk.injEq, true_and] at h
    subst h
    rw [numberFO_eq]
    exact numberF_p
  · simp at h
noncomputable def o103O : Orc := ext 103 g103O o103
theorem o103O_ok : OrcOK Try.prog o103O := ext_ok o103_ok g103O_ok

/- curve.closed -/
noncomputable def closedF (e : (Nat → Int)) (f : (Nat → Int)) (g : (Nat → Int)) (h : (Nat → Int)) : (Nat → Int) := (L [((mulFO e f) 0), ((mulFO e f) 1), ((mulFO e f) 2), ((mulFO e f) 3), ((mulFO e f) 4), ((mulFO g h) 0), ((mulFO g h) 1), ((mulFO g h) 2), ((mulFO g h) 3), ((mulFO g h) 4), ((mulFO f g) 0), ((mulFO f g) 1), ((mulFO f g) 2), ((mulFO f g) 3), ((mulFO f g) 4), ((mulFO e h) 0), ((mulFO e h) 1), ((mulFO e h) 2), ((mulFO e h) 3), ((mulFO e h) 4)])
theorem closedF_t (e : (Nat → Int)) (f : (Nat → Int)) (g : (Nat → Int)) (h : (Nat → Int)) : awp Try.prog o103O noG 300 (body Try.f105) (ends Try.prog Try.f105 fun v _ => okV (V.ints .u64 20 (closedF e f g h)) v) ⟨[(V.ints .u64 5 e), (V.ints .u64 5 f), (V.ints .u64 5 g), (V.ints .u64 5 h)] ++ List.replicate 18 V.un, []⟩ = ((V.ints .u64 20 (closedF e f g h)).den z0 = (V.ints .u64 20 (closedF e f g h)).den z0) := by kernel_rfl
theorem closedF_a (e : (Nat → Int)) (f : (Nat → Int)) (g : (Nat → Int)) (h : (Nat → Int)) : awp Try.prog o103O noG 300 (body Try.f105) (ends Try.prog Try.f105 fun v _ => okV (V.ints .u64 20 (closedF e f g h)) v) ⟨[(V.ints .u64 5 e), (V.ints .u64 5 f), (V.ints .u64 5 g), (V.ints .u64 5 h)] ++ List.replicate 18 V.un, []⟩ := by rw [closedF_t]
noncomputable def g105 : List V → Option (Bool × V) := fun | [.ints .u64 5 e, .ints .u64 5 f, .ints .u64 5 g, .ints .u64 5 h] => some (true, (V.ints .u64 20 (closedF e f g h))) | _ => none
theorem closedF_p (e : (Nat → Int)) (f : (Nat → Int)) (g : (Nat → Int)) (h : (Nat → Int)) : (∀ μ μ', V.den μ' (V.ints .u64 20 (closedF e f g h)) = V.den μ (V.ints .u64 20 (closedF e f g h))) ∧ ∀ μ w, PureAt Try.prog 105 (([(V.ints .u64 5 e), (V.ints .u64 5 f), (V.ints .u64 5 g), (V.ints .u64 5 h)] : List V).map (V.den μ)).toArray (V.den μ (V.ints .u64 20 (closedF e f g h))) w :=
  pure_ok (F := o103O) (N := 300) (fn := Try.f105) (args := [(V.ints .u64 5 e), (V.ints .u64 5 f), (V.ints .u64 5 g), (V.ints .u64 5 h)]) (r := (V.ints .u64 20 (closedF e f g h))) (n := 18) hM o103O_ok (noG_ok _) Try.func105 (by kernel_rfl) (by kernel_rfl) (by kernel_rfl) (by kernel_rfl) (closedF_a e f g h) (by kernel_rfl)
theorem g105_ok (vs : List V) (v : V) (h : g105 vs = some (true, v)) : (∀ μ μ', v.den μ' = v.den μ) ∧ ∀ μ w, PureAt Try.prog 105 (vs.map (V.den μ)).toArray (v.den μ) w := by
  unfold g105 at h
  split at h
  · simp only [Option.some.injEq, Prod.mk.injEq, true_and] at h
    subst h
    exact closedF_p _ _ _ _
  · simp at h
noncomputable def o105 : Orc := ext 105 g105 o103O
theorem o105_ok : OrcOK Try.prog o105 := ext_ok o103O_ok g105_ok

theorem closedFO_ex : ∃ f : (Nat → Int) → (Nat → Int) → (Nat → Int) → (Nat → Int) → (Nat → Int), f = closedF := ⟨_, rfl⟩
/-- closedF, by a name that is not unfolded. -/
noncomputable def closedFO : (Nat → Int) → (Nat → Int) → (Nat → Int) → (Nat → Int) → (Nat → Int) := Classical.choose closedFO_ex
theorem closedFO_eq : closedFO = closedF := Classical.choose_spec closedFO_ex
noncomputable def g105O : List V → Option (Bool × V) := fun | [.ints .u64 5 e, .ints .u64 5 f, .ints .u64 5 g, .ints .u64 5 h] => some (true, (V.ints .u64 20 (closedFO e f g h))) | _ => none
theorem g105O_ok (vs : List V) (v : V) (h : g105O vs = some (true, v)) : (∀ μ μ', v.den μ' = v.den μ) ∧ ∀ μ w, PureAt Try.prog 105 (vs.map (V.den μ)).toArray (v.den μ) w := by
  unfold g105O at h
  split at h
  · simp only [Option.some.injEq, Prod.mk.injEq, true_and] at h
    subst h
    rw [closedFO_eq]
    exact closedF_p _ _ _ _
  · simp at h
noncomputable def o105O : Orc := ext 105 g105O o105
theorem o105O_ok : OrcOK Try.prog o105O := ext_ok o105_ok g105O_ok

/- curve.Zero -/
noncomputable def zeroP : (Nat → Int) := (L [0, 0, 0, 0, 0, (unitFO 0), (unitFO 1), (unitFO 2), (unitFO 3), (unitFO 4), (unitFO 0), (unitFO 1), (unitFO 2), (unitFO 3), (unitFO 4), 0, 0, 0, 0, 0])
theorem zeroP_t : awp Try.prog o105O noG 300 (body Try.f65) (ends Try.prog Try.f65 fun v _ => okV (V.ints .u64 20 zeroP) v) ⟨[] ++ List.replicate 4 V.un, []⟩ = ((V.ints .u64 20 zeroP).den z0 = (V.ints .u64 20 zeroP).den z0) := by kernel_rfl
theorem zeroP_a : awp Try.prog o105O noG 300 (body Try.f65) (ends Try.prog Try.f65 fun v _ => okV (V.ints .u64 20 zeroP) v) ⟨[] ++ List.replicate 4 V.un, []⟩ := by rw [zeroP_t]
noncomputable def g65 : List V → Option (Bool × V) := fun | [] => some (true, (V.ints .u64 20 zeroP)) | _ => none
theorem zeroP_p : (∀ μ μ', V.den μ' (V.ints .u64 20 zeroP) = V.den μ (V.ints .u64 20 zeroP)) ∧ ∀ μ w, PureAt Try.prog 65 (([] : List V).map (V.den μ)).toArray (V.den μ (V.ints .u64 20 zeroP)) w :=
  pure_ok (F := o105O) (N := 300) (fn := Try.f65) (args := []) (r := (V.ints .u64 20 zeroP)) (n := 4) hM o105O_ok (noG_ok _) Try.func65 (by kernel_rfl) (by kernel_rfl) (by kernel_rfl) (by kernel_rfl) (zeroP_a) (by kernel_rfl)
theorem g65_ok (vs : List V) (v : V) (h : g65 vs = some (true, v)) : (∀ μ μ', v.den μ' = v.den μ) ∧ ∀ μ w, PureAt Try.prog 65 (vs.map (V.den μ)).toArray (v.den μ) w := by
  unfold g65 at h
  split at h
  · simp only [Option.some.injEq, Prod.mk.injEq, true_and] at h
    subst h
    exact zeroP_p
  · simp at h
noncomputable def o65 : Orc := ext 65 g65 o105O
theorem o65_ok : OrcOK Try.prog o65 := ext_ok o105O_ok g65_ok

theorem zeroPO_ex : ∃ f : (Nat → Int), f = zeroP := ⟨_, rfl⟩
/-- zeroP, by a name that is not unfolded. -/
noncomputable def zeroPO : (Nat → Int) := Classical.choose zeroPO_ex
theorem zeroPO_eq : zeroPO = zeroP := Classical.choose_spec zeroPO_ex
noncomputable def g65O : List V → Option (Bool × V) := fun | [] => some (true, (V.ints .u64 20 zeroPO)) | _ => none
theorem g65O_ok (vs : List V) (v : V) (h : g65O vs = some (true, v)) : (∀ μ μ', v.den μ' = v.den μ) ∧ ∀ μ w, PureAt Try.prog 65 (vs.map (V.den μ)).toArray (v.den μ) w := by
  unfold g65O at h
  split at h
  · simp only [Option.some.injEq, Prod.mk.injEq, true_and] at h
    subst h
    rw [zeroPO_eq]
    exact zeroP_p
  · simp at h
noncomputable def o65O : Orc := ext 65 g65O o65
theorem o65O_ok : OrcOK Try.prog o65O := ext_ok o65_ok g65O_ok

/- curve.start -/
noncomputable def startP : (Nat → Int) := (spl 15 5 20 (mulFO (fromBytesFO (up 31 33 (up 30 105 (up 29 54 (up 28 211 (up 27 205 (up 26 110 (up 25 83 (up 24 254 (up 23 192 (up 22 164 (up 21 226 (up 20 49 (up 19 253 (up 18 214 (up 17 220 (up 16 92 (up 15 105 (up 14 44 (up 13 199 (up 12 96 (up 11 149 (up 10 37 (up 9 167 (up 8 178 (up 7 201 (up 6 86 (up 5 45 (up 4 96 (up 3 143 (up 2 37 (up 1 213 (up 0 26 (fun _ => 0)))))))))))))))))))))))))))))))))) (fromBytesFO (up 31 102 (up 30 102 (up 29 102 (up 28 102 (up 27 102 (up 26 102 (up 25 102 (up 24 102 (up 23 102 (up 22 102 (up 21 102 (up 20 102 (up 19 102 (up 18 102 (up 17 102 (up 16 102 (up 15 102 (up 14 102 (up 13 102 (up 12 102 (up 11 102 (up 10 102 (up 9 102 (up 8 102 (up 7 102 (up 6 102 (up 5 102 (up 4 102 (up 3 102 (up 2 102 (up 1 102 (up 0 88 (fun _ => 0))))))))))))))))))))))))))))))))))) (spl 10 5 20 unitFO (spl 5 5 20 (fromBytesFO (up 31 102 (up 30 102 (up 29 102 (up 28 102 (up 27 102 (up 26 102 (up 25 102 (up 24 102 (up 23 102 (up 22 102 (up 21 102 (up 20 102 (up 19 102 (up 18 102 (up 17 102 (up 16 102 (up 15 102 (up 14 102 (up 13 102 (up 12 102 (up 11 102 (up 10 102 (up 9 102 (up 8 102 (up 7 102 (up 6 102 (up 5 102 (up 4 102 (up 3 102 (up 2 102 (up 1 102 (up 0 88 (fun _ => 0)))))))))))))))))))))))))))))))))) (spl 0 5 20 (fromBytesFO (up 31 33 (up 30 105 (up 29 54 (up 28 211 (up 27 205 (up 26 110 (up 25 83 (up 24 254 (up 23 192 (up 22 164 (up 21 226 (up 20 49 (up 19 253 (up 18 214 (up 17 220 (up 16 92 (up 15 105 (up 14 44 (up 13 199 (up 12 96 (up 11 149 (up 10 37 (up 9 167 (up 8 178 (up 7 201 (up 6 86 (up 5 45 (up 4 96 (up 3 143 (up 2 37 (up 1 213 (up 0 26 (fun _ => 0)))))))))))))))))))))))))))))))))) (fun _ => 0)))))
theorem startP_t : awp Try.prog o65O noG 300 (body Try.f100) (ends Try.prog Try.f100 fun v _ => okV (V.ints .u64 20 startP) v) ⟨[] ++ List.replicate 24 V.un, []⟩ = ((V.ints .u64 20 startP).den z0 = (V.ints .u64 20 startP).den z0) := by kernel_rfl
theorem startP_a : awp Try.prog o65O noG 300 (body Try.f100) (ends Try.prog Try.f100 fun v _ => okV (V.ints .u64 20 startP) v) ⟨[] ++ List.replicate 24 V.un, []⟩ := by rw [startP_t]
noncomputable def g100 : List V → Option (Bool × V) := fun | [] => some (true, (V.ints .u64 20 startP)) | _ => none
theorem startP_p : (∀ μ μ', V.den μ' (V.ints .u64 20 startP) = V.den μ (V.ints .u64 20 startP)) ∧ ∀ μ w, PureAt Try.prog 100 (([] : List V).map (V.den μ)).toArray (V.den μ (V.ints .u64 20 startP)) w :=
  pure_ok (F := o65O) (N := 300) (fn := Try.f100) (args := []) (r := (V.ints .u64 20 startP)) (n := 24) hM o65O_ok (noG_ok _) Try.func100 (by kernel_rfl) (by kernel_rfl) (by kernel_rfl) (by kernel_rfl) (startP_a) (by kernel_rfl)
theorem g100_ok (vs : List V) (v : V) (h : g100 vs = some (true, v)) : (∀ μ μ', v.den μ' = v.den μ) ∧ ∀ μ w, PureAt Try.prog 100 (vs.map (V.den μ)).toArray (v.den μ) w := by
  unfold g100 at h
  split at h
  · simp only [Option.some.injEq, Prod.mk.injEq, true_and] at h
    subst h
    exact startP_p
  · simp at h
noncomputable def o100 : Orc := ext 100 g100 o65O
theorem o100_ok : OrcOK Try.prog o100 := ext_ok o65O_ok g100_ok

theorem startPO_ex : ∃ f : (Nat → Int), f = startP := ⟨_, rfl⟩
/-- startP, by a name that is not unfolded. -/
noncomputable def startPO : (Nat → Int) := Classical.choose startPO_ex
theorem startPO_eq : startPO = startP := Classical.choose_spec startPO_ex
noncomputable def g100O : List V → Option (Bool × V) := fun | [] => some (true, (V.ints .u64 20 startPO)) | _ => none
theorem g100O_ok (vs : List V) (v : V) (h : g100O vs = some (true, v)) : (∀ μ μ', v.den μ' = v.den μ) ∧ ∀ μ w, PureAt Try.prog 100 (vs.map (V.den μ)).toArray (v.den μ) w := by
  unfold g100O at h
  split at h
  · simp only [Option.some.injEq, Prod.mk.injEq, true_and] at h
    subst h
    rw [startPO_eq]
    exact startP_p
  · simp at h
noncomputable def o100O : Orc := ext 100 g100O o100
theorem o100O_ok : OrcOK Try.prog o100O := ext_ok o100_ok g100O_ok

/- curve.Base -/
noncomputable def baseP : (Nat → Int) := startPO
theorem baseP_t : awp Try.prog o100O noG 300 (body Try.f59) (ends Try.prog Try.f59 fun v _ => okV (V.ints .u64 20 baseP) v) ⟨[] ++ List.replicate 2 V.un, []⟩ = ((V.ints .u64 20 baseP).den z0 = (V.ints .u64 20 baseP).den z0) := by kernel_rfl
theorem baseP_a : awp Try.prog o100O noG 300 (body Try.f59) (ends Try.prog Try.f59 fun v _ => okV (V.ints .u64 20 baseP) v) ⟨[] ++ List.replicate 2 V.un, []⟩ := by rw [baseP_t]
noncomputable def g59 : List V → Option (Bool × V) := fun | [] => some (true, (V.ints .u64 20 baseP)) | _ => none
theorem baseP_p : (∀ μ μ', V.den μ' (V.ints .u64 20 baseP) = V.den μ (V.ints .u64 20 baseP)) ∧ ∀ μ w, PureAt Try.prog 59 (([] : List V).map (V.den μ)).toArray (V.den μ (V.ints .u64 20 baseP)) w :=
  pure_ok (F := o100O) (N := 300) (fn := Try.f59) (args := []) (r := (V.ints .u64 20 baseP)) (n := 2) hM o100O_ok (noG_ok _) Try.func59 (by kernel_rfl) (by kernel_rfl) (by kernel_rfl) (by kernel_rfl) (baseP_a) (by kernel_rfl)
theorem g59_ok (vs : List V) (v : V) (h : g59 vs = some (true, v)) : (∀ μ μ', v.den μ' = v.den μ) ∧ ∀ μ w, PureAt Try.prog 59 (vs.map (V.den μ)).toArray (v.den μ) w := by
  unfold g59 at h
  split at h
  · simp only [Option.some.injEq, Prod.mk.injEq, true_and] at h
    subst h
    exact baseP_p
  · simp at h
noncomputable def o59 : Orc := ext 59 g59 o100O
theorem o59_ok : OrcOK Try.prog o59 := ext_ok o100O_ok g59_ok

theorem basePO_ex : ∃ f : (Nat → Int), f = baseP := ⟨_, rfl⟩
/-- baseP, by a name that is not unfolded. -/
noncomputable def basePO : (Nat → Int) := Classical.choose basePO_ex
theorem basePO_eq : basePO = baseP := Classical.choose_spec basePO_ex
noncomputable def g59O : List V → Option (Bool × V) := fun | [] => some (true, (V.ints .u64 20 basePO)) | _ => none
theorem g59O_ok (vs : List V) (v : V) (h : g59O vs = some (true, v)) : (∀ μ μ', v.den μ' = v.den μ) ∧ ∀ μ w, PureAt Try.prog 59 (vs.map (V.den μ)).toArray (v.den μ) w := by
  unfold g59O at h
  split at h
  · simp only [Option.some.injEq, Prod.mk.injEq, true_and] at h
    subst h
    rw [basePO_eq]
    exact baseP_p
  · simp at h
noncomputable def o59O : Orc := ext 59 g59O o59
theorem o59O_ok : OrcOK Try.prog o59O := ext_ok o59_ok g59O_ok

/- curve.Add -/
noncomputable def addP (q : (Nat → Int)) (r : (Nat → Int)) : (Nat → Int) := (closedFO (subFO (mulFO (addFO (sh 5 q) (sh 0 q)) (addFO (sh 5 r) (sh 0 r))) (mulFO (subFO (sh 5 q) (sh 0 q)) (subFO (sh 5 r) (sh 0 r)))) (subFO (mulFO (addFO (sh 10 q) (sh 10 q)) (sh 10 r)) (mulFO (mulFO (sh 15 q) doubledFO) (sh 15 r))) (addFO (mulFO (addFO (sh 10 q) (sh 10 q)) (sh 10 r)) (mulFO (mulFO (sh 15 q) doubledFO) (sh 15 r))) (addFO (mulFO (addFO (sh 5 q) (sh 0 q)) (addFO (sh 5 r) (sh 0 r))) (mulFO (subFO (sh 5 q) (sh 0 q)) (subFO (sh 5 r) (sh 0 r)))))
theorem addP_t (q : (Nat → Int)) (r : (Nat → Int)) : awp Try.prog o59O noG 300 (body Try.f70) (ends Try.prog Try.f70 fun v _ => okV (V.ints .u64 20 (addP q r)) v) ⟨[(V.ints .u64 20 q), (V.ints .u64 20 r)] ++ List.replicate 59 V.un, []⟩ = ((V.ints .u64 20 (addP q r)).den z0 = (V.ints .u64 20 (addP q r)).den z0) := by kernel_rfl
theorem addP_a (q : (Nat → Int)) (r : (Nat → Int)) : awp Try.prog o59O noG 300 (body Try.f70) (ends Try.prog Try.f70 fun v _ => okV (V.ints .u64 20 (addP q r)) v) ⟨[(V.ints .u64 20 q), (V.ints .u64 20 r)] ++ List.replicate 59 V.un, []⟩ := by rw [addP_t]
noncomputable def g70 : List V → Option (Bool × V) := fun | [.ints .u64 20 q, .ints .u64 20 r] => some (true, (V.ints .u64 20 (addP q r))) | _ => none
theorem addP_p (q : (Nat → Int)) (r : (Nat → Int)) : (∀ μ μ', V.den μ' (V.ints .u64 20 (addP q r)) = V.den μ (V.ints .u64 20 (addP q r))) ∧ ∀ μ w, PureAt Try.prog 70 (([(V.ints .u64 20 q), (V.ints .u64 20 r)] : List V).map (V.den μ)).toArray (V.den μ (V.ints .u64 20 (addP q r))) w :=
  pure_ok (F := o59O) (N := 300) (fn := Try.f70) (args := [(V.ints .u64 20 q), (V.ints .u64 20 r)]) (r := (V.ints .u64 20 (addP q r))) (n := 59) hM o59O_ok (noG_ok _) Try.func70 (by kernel_rfl) (by kernel_rfl) (by kernel_rfl) (by kernel_rfl) (addP_a q r) (by kernel_rfl)
theorem g70_ok (vs : List V) (v : V) (h : g70 vs = some (true, v)) : (∀ μ μ', v.den μ' = v.den μ) ∧ ∀ μ w, PureAt Try.prog 70 (vs.map (V.den μ)).toArray (v.den μ) w := by
  unfold g70 at h
  split at h
  · simp only [Option.some.injEq, Prod.mk.injEq, true_and] at h
    subst h
    exact addP_p _ _
  · simp at h
noncomputable def o70 : Orc := ext 70 g70 o59O
theorem o70_ok : OrcOK Try.prog o70 := ext_ok o59O_ok g70_ok

theorem addPO_ex : ∃ f : (Nat → Int) → (Nat → Int) → (Nat → Int), f = addP := ⟨_, rfl⟩
/-- addP, by a name that is not unfolded. -/
noncomputable def addPO : (Nat → Int) → (Nat → Int) → (Nat → Int) := Classical.choose addPO_ex
theorem addPO_eq : addPO = addP := Classical.choose_spec addPO_ex
noncomputable def g70O : List V → Option (Bool × V) := fun | [.ints .u64 20 q, .ints .u64 20 r] => some (true, (V.ints .u64 20 (addPO q r))) | _ => none
theorem g70O_ok (vs : List V) (v : V) (h : g70O vs = some (true, v)) : (∀ μ μ', v.den μ' = v.den μ) ∧ ∀ μ w, PureAt Try.prog 70 (vs.map (V.den μ)).toArray (v.den μ) w := by
  unfold g70O at h
  split at h
  · simp only [Option.some.injEq, Prod.mk.injEq, true_and] at h
    subst h
    rw [addPO_eq]
    exact addP_p _ _
  · simp at h
noncomputable def o70O : Orc := ext 70 g70O o70
theorem o70O_ok : OrcOK Try.prog o70O := ext_ok o70_ok g70O_ok

/- curve.Double -/
noncomputable def doubleP (q : (Nat → Int)) : (Nat → Int) := (closedFO (subFO (addFO (squareFO (sh 0 q)) (squareFO (sh 5 q))) (squareFO (addFO (sh 0 q) (sh 5 q)))) (addFO (addFO (squareFO (sh 10 q)) (squareFO (sh 10 q))) (subFO (squareFO (sh 0 q)) (squareFO (sh 5 q)))) (subFO (squareFO (sh 0 q)) (squareFO (sh 5 q))) (addFO (squareFO (sh 0 q)) (squareFO (sh 5 q))))
theorem doubleP_t (q : (Nat → Int)) : awp Try.prog o70O noG 300 (body Try.f73) (ends Try.prog Try.f73 fun v _ => okV (V.ints .u64 20 (doubleP q)) v) ⟨[(V.ints .u64 20 q)] ++ List.replicate 42 V.un, []⟩ = ((V.ints .u64 20 (doubleP q)).den z0 = (V.ints .u64 20 (doubleP q)).den z0) := by kernel_rfl
theorem doubleP_a (q : (Nat → Int)) : awp Try.prog o70O noG 300 (body Try.f73) (ends Try.prog Try.f73 fun v _ => okV (V.ints .u64 20 (doubleP q)) v) ⟨[(V.ints .u64 20 q)] ++ List.replicate 42 V.un, []⟩ := by rw [doubleP_t]
noncomputable def g73 : List V → Option (Bool × V) := fun | [.ints .u64 20 q] => some (true, (V.ints .u64 20 (doubleP q))) | _ => none
theorem doubleP_p (q : (Nat → Int)) : (∀ μ μ', V.den μ' (V.ints .u64 20 (doubleP q)) = V.den μ (V.ints .u64 20 (doubleP q))) ∧ ∀ μ w, PureAt Try.prog 73 (([(V.ints .u64 20 q)] : List V).map (V.den μ)).toArray (V.den μ (V.ints .u64 20 (doubleP q))) w :=
  pure_ok (F := o70O) (N := 300) (fn := Try.f73) (args := [(V.ints .u64 20 q)]) (r := (V.ints .u64 20 (doubleP q))) (n := 42) hM o70O_ok (noG_ok _) Try.func73 (by kernel_rfl) (by kernel_rfl) (by kernel_rfl) (by kernel_rfl) (doubleP_a q) (by kernel_rfl)
theorem g73_ok (vs : List V) (v : V) (h : g73 vs = some (true, v)) : (∀ μ μ', v.den μ' = v.den μ) ∧ ∀ μ w, PureAt Try.prog 73 (vs.map (V.den μ)).toArray (v.den μ) w := by
  unfold g73 at h
  split at h
  · simp only [Option.some.injEq, Prod.mk.injEq, true_and] at h
    subst h
    exact doubleP_p _
  · simp at h
noncomputable def o73 : Orc := ext 73 g73 o70O
theorem o73_ok : OrcOK Try.prog o73 := ext_ok o70O_ok g73_ok

theorem doublePO_ex : ∃ f : (Nat → Int) → (Nat → Int), f = doubleP := ⟨_, rfl⟩
/-- doubleP, by a name that is not unfolded. -/
noncomputable def doublePO : (Nat → Int) → (Nat → Int) := Classical.choose doublePO_ex
theorem doublePO_eq : doublePO = doubleP := Classical.choose_spec doublePO_ex
noncomputable def g73O : List V → Option (Bool × V) := fun | [.ints .u64 20 q] => some (true, (V.ints .u64 20 (doublePO q))) | _ => none
theorem g73O_ok (vs : List V) (v : V) (h : g73O vs = some (true, v)) : (∀ μ μ', v.den μ' = v.den μ) ∧ ∀ μ w, PureAt Try.prog 73 (vs.map (V.den μ)).toArray (v.den μ) w := by
  unfold g73O at h
  split at h
  · simp only [Option.some.injEq, Prod.mk.injEq, true_and] at h
    subst h
    rw [doublePO_eq]
    exact doubleP_p _
  · simp at h
noncomputable def o73O : Orc := ext 73 g73O o73
theorem o73O_ok : OrcOK Try.prog o73O := ext_ok o73_ok g73O_ok

/- curve.Neg -/
noncomputable def negP (q : (Nat → Int)) : (Nat → Int) := (L [((negFO (sh 0 q)) 0), ((negFO (sh 0 q)) 1), ((negFO (sh 0 q)) 2), ((negFO (sh 0 q)) 3), ((negFO (sh 0 q)) 4), (q 5), (q 6), (q 7), (q 8), (q 9), (q 10), (q 11), (q 12), (q 13), (q 14), ((negFO (sh 15 q)) 0), ((negFO (sh 15 q)) 1), ((negFO (sh 15 q)) 2), ((negFO (sh 15 q)) 3), ((negFO (sh 15 q)) 4)])
theorem negP_t (q : (Nat → Int)) : awp Try.prog o73O noG 300 (body Try.f67) (ends Try.prog Try.f67 fun v _ => okV (V.ints .u64 20 (negP q)) v) ⟨[(V.ints .u64 20 q)] ++ List.replicate 13 V.un, []⟩ = ((V.ints .u64 20 (negP q)).den z0 = (V.ints .u64 20 (negP q)).den z0) := by kernel_rfl
theorem negP_a (q : (Nat → Int)) : awp Try.prog o73O noG 300 (body Try.f67) (ends Try.prog Try.f67 fun v _ => okV (V.ints .u64 20 (negP q)) v) ⟨[(V.ints .u64 20 q)] ++ List.replicate 13 V.un, []⟩ := by rw [negP_t]
noncomputable def g67 : List V → Option (Bool × V) := fun | [.ints .u64 20 q] => some (true, (V.ints .u64 20 (negP q))) | _ => none
theorem negP_p (q : (Nat → Int)) : (∀ μ μ', V.den μ' (V.ints .u64 20 (negP q)) = V.den μ (V.ints .u64 20 (negP q))) ∧ ∀ μ w, PureAt Try.prog 67 (([(V.ints .u64 20 q)] : List V).map (V.den μ)).toArray (V.den μ (V.ints .u64 20 (negP q))) w :=
  pure_ok (F := o73O) (N := 300) (fn := Try.f67) (args := [(V.ints .u64 20 q)]) (r := (V.ints .u64 20 (negP q))) (n := 13) hM o73O_ok (noG_ok _) Try.func67 (by kernel_rfl) (by kernel_rfl) (by kernel_rfl) (by kernel_rfl) (negP_a q) (by kernel_rfl)
theorem g67_ok (vs : List V) (v : V) (h : g67 vs = some (true, v)) : (∀ μ μ', v.den μ' = v.den μ) ∧ ∀ μ w, PureAt Try.prog 67 (vs.map (V.den μ)).toArray (v.den μ) w := by
  unfold g67 at h
  split at h
  · simp only [Option.some.injEq, Prod.mk.injEq, true_and] at h
    subst h
    exact negP_p _
  · simp at h
noncomputable def o67 : Orc := ext 67 g67 o73O
theorem o67_ok : OrcOK Try.prog o67 := ext_ok o73O_ok g67_ok

theorem negPO_ex : ∃ f : (Nat → Int) → (Nat → Int), f = negP := ⟨_, rfl⟩
/-- negP, by a name that is not unfolded. -/
noncomputable def negPO : (Nat → Int) → (Nat → Int) := Classical.choose negPO_ex
theorem negPO_eq : negPO = negP := Classical.choose_spec negPO_ex
noncomputable def g67O : List V → Option (Bool × V) := fun | [.ints .u64 20 q] => some (true, (V.ints .u64 20 (negPO q))) | _ => none
theorem g67O_ok (vs : List V) (v : V) (h : g67O vs = some (true, v)) : (∀ μ μ', v.den μ' = v.den μ) ∧ ∀ μ w, PureAt Try.prog 67 (vs.map (V.den μ)).toArray (v.den μ) w := by
  unfold g67O at h
  split at h
  · simp only [Option.some.injEq, Prod.mk.injEq, true_and] at h
    subst h
    rw [negPO_eq]
    exact negP_p _
  · simp at h
noncomputable def o67O : Orc := ext 67 g67O o67
theorem o67O_ok : OrcOK Try.prog o67O := ext_ok o67_ok g67O_ok

/- curve.Equal -/
noncomputable def equalP (q : (Nat → Int)) (r : (Nat → Int)) : Bool := (cond (equalFO (mulFO (sh 0 q) (sh 10 r)) (mulFO (sh 0 r) (sh 10 q))) (equalFO (mulFO (sh 5 q) (sh 10 r)) (mulFO (sh 5 r) (sh 10 q))) false)
theorem equalP_t (q : (Nat → Int)) (r : (Nat → Int)) : awp Try.prog o67O noG 300 (body Try.f63) (ends Try.prog Try.f63 fun v _ => okV (V.bool (equalP q r)) v) ⟨[(V.ints .u64 20 q), (V.ints .u64 20 r)] ++ List.replicate 27 V.un, []⟩ = (mB (equalFO (mulFO (sh 0 q) (sh 10 r)) (mulFO (sh 0 r) (sh 10 q))) ((V.bool (equalFO (mulFO (sh 5 q) (sh 10 r)) (mulFO (sh 5 r) (sh 10 q)))).den z0 = (V.bool (equalP q r)).den z0) ((V.bool false).den z0 = (V.bool (equalP q r)).den z0)) := by kernel_rfl
theorem equalP_a (q : (Nat → Int)) (r : (Nat → Int)) : awp Try.prog o67O noG 300 (body Try.f63) (ends Try.prog Try.f63 fun v _ => okV (V.bool (equalP q r)) v) ⟨[(V.ints .u64 20 q), (V.ints .u64 20 r)] ++ List.replicate 27 V.un, []⟩ := by
  rw [equalP_t]
  refine mBt (fun h1 => ?_) (fun h1 => ?_)
  · simp only [equalP, h1, cond_true]
  · simp only [equalP, h1, cond_false]
noncomputable def g63 : List V → Option (Bool × V) := fun | [.ints .u64 20 q, .ints .u64 20 r] => some (true, (V.bool (equalP q r))) | _ => none
theorem equalP_p (q : (Nat → Int)) (r : (Nat → Int)) : (∀ μ μ', V.den μ' (V.bool (equalP q r)) = V.den μ (V.bool (equalP q r))) ∧ ∀ μ w, PureAt Try.prog 63 (([(V.ints .u64 20 q), (V.ints .u64 20 r)] : List V).map (V.den μ)).toArray (V.den μ (V.bool (equalP q r))) w :=
  pure_ok (F := o67O) (N := 300) (fn := Try.f63) (args := [(V.ints .u64 20 q), (V.ints .u64 20 r)]) (r := (V.bool (equalP q r))) (n := 27) hM o67O_ok (noG_ok _) Try.func63 (by kernel_rfl) (by kernel_rfl) (by kernel_rfl) (by kernel_rfl) (equalP_a q r) (by kernel_rfl)
theorem g63_ok (vs : List V) (v : V) (h : g63 vs = some (true, v)) : (∀ μ μ', v.den μ' = v.den μ) ∧ ∀ μ w, PureAt Try.prog 63 (vs.map (V.den μ)).toArray (v.den μ) w := by
  unfold g63 at h
  split at h
  · simp only [Option.some.injEq, Prod.mk.injEq, true_and] at h
    subst h
    exact equalP_p _ _
  · simp at h
noncomputable def o63 : Orc := ext 63 g63 o67O
theorem o63_ok : OrcOK Try.prog o63 := ext_ok o67O_ok g63_ok

theorem equalPO_ex : ∃ f : (Nat → Int) → (Nat → Int) → Bool, f = equalP := ⟨_, rfl⟩
/-- equalP, by a name that is not unfolded. -/
noncomputable def equalPO : (Nat → Int) → (Nat → Int) → Bool := Classical.choose equalPO_ex
theorem equalPO_eq : equalPO = equalP := Classical.choose_spec equalPO_ex
noncomputable def g63O : List V → Option (Bool × V) := fun | [.ints .u64 20 q, .ints .u64 20 r] => some (true, (V.bool (equalPO q r))) | _ => none
theorem g63O_ok (vs : List V) (v : V) (h : g63O vs = some (true, v)) : (∀ μ μ', v.den μ' = v.den μ) ∧ ∀ μ w, PureAt Try.prog 63 (vs.map (V.den μ)).toArray (v.den μ) w := by
  unfold g63O at h
  split at h
  · simp only [Option.some.injEq, Prod.mk.injEq, true_and] at h
    subst h
    rw [equalPO_eq]
    exact equalP_p _ _
  · simp at h
noncomputable def o63O : Orc := ext 63 g63O o63
theorem o63O_ok : OrcOK Try.prog o63O := ext_ok o63_ok g63O_ok

/- curve.OnCurve -/
noncomputable def onP (q : (Nat → Int)) : Bool := (cond (!(isZeroFO (sh 10 q))) (cond (equalFO (mulFO (sh 0 q) (sh 5 q)) (mulFO (sh 10 q) (sh 15 q))) (equalFO (subFO (squareFO (sh 5 q)) (squareFO (sh 0 q))) (addFO (squareFO (sh 10 q)) (mulFO numberFO (squareFO (sh 15 q))))) false) false)
theorem onP_t (q : (Nat → Int)) : awp Try.prog o63O noG 300 (body Try.f69) (ends Try.prog Try.f69 fun v _ => okV (V.bool (onP q)) v) ⟨[(V.ints .u64 20 q)] ++ List.replicate 42 V.un, []⟩ = (mB (!(isZeroFO (sh 10 q))) (mB (equalFO (mulFO (sh 0 q) (sh 5 q)) (mulFO (sh 10 q) (sh 15 q))) ((V.bool (equalFO (subFO (squareFO (sh 5 q)) (squareFO (sh 0 q))) (addFO (squareFO (sh 10 q)) (mulFO numberFO (squareFO (sh 15 q)))))).den z0 = (V.bool (onP q)).den z0) ((V.bool false).den z0 = (V.bool (onP q)).den z0)) ((V.bool false).den z0 = (V.bool (onP q)).den z0)) := by kernel_rfl
theorem onP_a (q : (Nat → Int)) : awp Try.prog o63O noG 300 (body Try.f69) (ends Try.prog Try.f69 fun v _ => okV (V.bool (onP q)) v) ⟨[(V.ints .u64 20 q)] ++ List.replicate 42 V.un, []⟩ := by
  rw [onP_t]
  refine mBt (fun h1 => ?_) (fun h1 => ?_)
  · refine mBt (fun h2 => ?_) (fun h2 => ?_)
    · simp only [onP, h1, h2, cond_true]
    · simp only [onP, h1, h2, cond_true, cond_false]
  · simp only [onP, h1, cond_false]
noncomputable def g69 : List V → Option (Bool × V) := fun | [.ints .u64 20 q] => some (true, (V.bool (onP q))) | _ => none
theorem onP_p (q : (Nat → Int)) : (∀ μ μ', V.den μ' (V.bool (onP q)) = V.den μ (V.bool (onP q))) ∧ ∀ μ w, PureAt Try.prog 69 (([(V.ints .u64 20 q)] : List V).map (V.den μ)).toArray (V.den μ (V.bool (onP q))) w :=
  pure_ok (F := o63O) (N := 300) (fn := Try.f69) (args := [(V.ints .u64 20 q)]) (r := (V.bool (onP q))) (n := 42) hM o63O_ok (noG_ok _) Try.func69 (by kernel_rfl) (by kernel_rfl) (by kernel_rfl) (by kernel_rfl) (onP_a q) (by kernel_rfl)
theorem g69_ok (vs : List V) (v : V) (h : g69 vs = some (true, v)) : (∀ μ μ', v.den μ' = v.den μ) ∧ ∀ μ w, PureAt Try.prog 69 (vs.map (V.den μ)).toArray (v.den μ) w := by
  unfold g69 at h
  split at h
  · simp only [Option.some.injEq, Prod.mk.injEq, true_and] at h
    subst h
    exact onP_p _
  · simp at h
noncomputable def o69 : Orc := ext 69 g69 o63O
theorem o69_ok : OrcOK Try.prog o69 := ext_ok o63O_ok g69_ok

theorem onPO_ex : ∃ f : (Nat → Int) → Bool, f = onP := ⟨_, rfl⟩
/-- onP, by a name that is not unfolded. -/
noncomputable def onPO : (Nat → Int) → Bool := Classical.choose onPO_ex
theorem onPO_eq : onPO = onP := Classical.choose_spec onPO_ex
noncomputable def g69O : List V → Option (Bool × V) := fun | [.ints .u64 20 q] => some (true, (V.bool (onPO q))) | _ => none
theorem g69O_ok (vs : List V) (v : V) (h : g69O vs = some (true, v)) : (∀ μ μ', v.den μ' = v.den μ) ∧ ∀ μ w, PureAt Try.prog 69 (vs.map (V.den μ)).toArray (v.den μ) w := by
  unfold g69O at h
  split at h
  · simp only [Option.some.injEq, Prod.mk.injEq, true_and] at h
    subst h
    rw [onPO_eq]
    exact onP_p _
  · simp at h
noncomputable def o69O : Orc := ext 69 g69O o69
theorem o69O_ok : OrcOK Try.prog o69O := ext_ok o69_ok g69O_ok

/- curve.Encode -/
noncomputable def encodeP (q : (Nat → Int)) : (Nat → Int) := (cond (isOddFO (mulFO (sh 0 q) (invertFO (sh 10 q)))) (up 31 (orI .u8 ((bytesFO (mulFO (sh 5 q) (invertFO (sh 10 q)))) 31) 128) (bytesFO (mulFO (sh 5 q) (invertFO (sh 10 q))))) (bytesFO (mulFO (sh 5 q) (invertFO (sh 10 q)))))
theorem encodeP_t (q : (Nat → Int)) : awp Try.prog o69O noG 300 (body Try.f58) (ends Try.prog Try.f58 fun v _ => okV (V.ints .u8 32 (encodeP q)) v) ⟨[(V.ints .u64 20 q)] ++ List.replicate 22 V.un, []⟩ = (mB (isOddFO (mulFO (sh 0 q) (invertFO (sh 10 q)))) ((V.ints .u8 32 (up 31 (orI .u8 ((bytesFO (mulFO (sh 5 q) (invertFO (sh 10 q)))) 31) 128) (bytesFO (mulFO (sh 5 q) (invertFO (sh 10 q)))))).den z0 = (V.ints .u8 32 (encodeP q)).den z0) ((V.ints .u8 32 (bytesFO (mulFO (sh 5 q) (invertFO (sh 10 q))))).den z0 = (V.ints .u8 32 (encodeP q)).den z0)) := by kernel_rfl
theorem encodeP_a (q : (Nat → Int)) : awp Try.prog o69O noG 300 (body Try.f58) (ends Try.prog Try.f58 fun v _ => okV (V.ints .u8 32 (encodeP q)) v) ⟨[(V.ints .u64 20 q)] ++ List.replicate 22 V.un, []⟩ := by
  rw [encodeP_t]
  refine mBt (fun h1 => ?_) (fun h1 => ?_)
  · simp only [encodeP, h1, cond_true]
  · simp only [encodeP, h1, cond_false]
noncomputable def g58 : List V → Option (Bool × V) := fun | [.ints .u64 20 q] => some (true, (V.ints .u8 32 (encodeP q))) | _ => none
theorem encodeP_p (q : (Nat → Int)) : (∀ μ μ', V.den μ' (V.ints .u8 32 (encodeP q)) = V.den μ (V.ints .u8 32 (encodeP q))) ∧ ∀ μ w, PureAt Try.prog 58 (([(V.ints .u64 20 q)] : List V).map (V.den μ)).toArray (V.den μ (V.ints .u8 32 (encodeP q))) w :=
  pure_ok (F := o69O) (N := 300) (fn := Try.f58) (args := [(V.ints .u64 20 q)]) (r := (V.ints .u8 32 (encodeP q))) (n := 22) hM o69O_ok (noG_ok _) Try.func58 (by kernel_rfl) (by kernel_rfl) (by kernel_rfl) (by kernel_rfl) (encodeP_a q) (by kernel_rfl)
theorem g58_ok (vs : List V) (v : V) (h : g58 vs = some (true, v)) : (∀ μ μ', v.den μ' = v.den μ) ∧ ∀ μ w, PureAt Try.prog 58 (vs.map (V.den μ)).toArray (v.den μ) w := by
  unfold g58 at h
  split at h
  · simp only [Option.some.injEq, Prod.mk.injEq, true_and] at h
    subst h
    exact encodeP_p _
  · simp at h
noncomputable def o58 : Orc := ext 58 g58 o69O
theorem o58_ok : OrcOK Try.prog o58 := ext_ok o69O_ok g58_ok

theorem encodePO_ex : ∃ f : (Nat → Int) → (Nat → Int), f = encodeP := ⟨_, rfl⟩
/-- encodeP, by a name that is not unfolded. -/
noncomputable def encodePO : (Nat → Int) → (Nat → Int) := Classical.choose encodePO_ex
theorem encodePO_eq : encodePO = encodeP := Classical.choose_spec encodePO_ex
noncomputable def g58O : List V → Option (Bool × V) := fun | [.ints .u64 20 q] => some (true, (V.ints .u8 32 (encodePO q))) | _ => none
theorem g58O_ok (vs : List V) (v : V) (h : g58O vs = some (true, v)) : (∀ μ μ', v.den μ' = v.den μ) ∧ ∀ μ w, PureAt Try.prog 58 (vs.map (V.den μ)).toArray (v.den μ) w := by
  unfold g58O at h
  split at h
  · simp only [Option.some.injEq, Prod.mk.injEq, true_and] at h
    subst h
    rw [encodePO_eq]
    exact encodeP_p _
  · simp at h
noncomputable def o58O : Orc := ext 58 g58O o58
theorem o58O_ok : OrcOK Try.prog o58O := ext_ok o58_ok g58O_ok

/- curve.Decode -/
noncomputable def decodeP (b : (Nat → Int)) : ((Nat → Int) × Bool) := (cond (!(canonicalFO (up 31 (andI .u8 (b 31) 127) b))) ((fun _ => 0), false) (cond (!(sqrtFO (subFO (squareFO (fromBytesFO (up 31 (andI .u8 (b 31) 127) b))) unitFO) (addFO (mulFO limbsFO (squareFO (fromBytesFO (up 31 (andI .u8 (b 31) 127) b)))) unitFO)).2) ((fun _ => 0), false) (cond ((shrI .u8 (b 31) 7) == 1) (cond (isZeroFO (sqrtFO (subFO (squareFO (fromBytesFO (up 31 (andI .u8 (b 31) 127) b))) unitFO) (addFO (mulFO limbsFO (squareFO (fromBytesFO (up 31 (andI .u8 (b 31) 127) b)))) unitFO)).1) ((fun _ => 0), false) (cond ((shrI .u8 (b 31) 7) == 1) ((spl 15 5 20 (mulFO (negFO (sqrtFO (subFO (squareFO (fromBytesFO (up 31 (andI .u8 (b 31) 127) b))) unitFO) (addFO (mulFO limbsFO (squareFO (fromBytesFO (up 31 (andI .u8 (b 31) 127) b)))) unitFO)).1) (fromBytesFO (up 31 (andI .u8 (b 31) 127) b))) (spl 10 5 20 unitFO (spl 5 5 20 (fromBytesFO (up 31 (andI .u8 (b 31) 127) b)) (spl 0 5 20 (negFO (sqrtFO (subFO (squareFO (fromBytesFO (up 31 (andI .u8 (b 31) 127) b))) unitFO) (addFO (mulFO limbsFO (squareFO (fromBytesFO (up 31 (andI .u8 (b 31) 127) b)))) unitFO)).1) (fun _ => 0))))), true) ((spl 15 5 20 (mulFO (sqrtFO (subFO (squareFO (fromBytesFO (up 31 (andI .u8 (b 31) 127) b))) unitFO) (addFO (mulFO limbsFO (squareFO (fromBytesFO (up 31 (andI .u8 (b 31) 127) b)))) unitFO)).1 (fromBytesFO (up 31 (andI .u8 (b 31) 127) b))) (spl 10 5 20 unitFO (spl 5 5 20 (fromBytesFO (up 31 (andI .u8 (b 31) 127) b)) (spl 0 5 20 (sqrtFO (subFO (squareFO (fromBytesFO (up 31 (andI .u8 (b 31) 127) b))) unitFO) (addFO (mulFO limbsFO (squareFO (fromBytesFO (up 31 (andI .u8 (b 31) 127) b)))) unitFO)).1 (fun _ => 0))))), true))) (cond ((shrI .u8 (b 31) 7) == 1) ((spl 15 5 20 (mulFO (negFO (sqrtFO (subFO (squareFO (fromBytesFO (up 31 (andI .u8 (b 31) 127) b))) unitFO) (addFO (mulFO limbsFO (squareFO (fromBytesFO (up 31 (andI .u8 (b 31) 127) b)))) unitFO)).1) (fromBytesFO (up 31 (andI .u8 (b 31) 127) b))) (spl 10 5 20 unitFO (spl 5 5 20 (fromBytesFO (up 31 (andI .u8 (b 31) 127) b)) (spl 0 5 20 (negFO (sqrtFO (subFO (squareFO (fromBytesFO (up 31 (andI .u8 (b 31) 127) b))) unitFO) (addFO (mulFO limbsFO (squareFO (fromBytesFO (up 31 (andI .u8 (b 31) 127) b)))) unitFO)).1) (fun _ => 0))))), true) ((spl 15 5 20 (mulFO (sqrtFO (subFO (squareFO (fromBytesFO (up 31 (andI .u8 (b 31) 127) b))) unitFO) (addFO (mulFO limbsFO (squareFO (fromBytesFO (up 31 (andI .u8 (b 31) 127) b)))) unitFO)).1 (fromBytesFO (up 31 (andI .u8 (b 31) 127) b))) (spl 10 5 20 unitFO (spl 5 5 20 (fromBytesFO (up 31 (andI .u8 (b 31) 127) b)) (spl 0 5 20 (sqrtFO (subFO (squareFO (fromBytesFO (up 31 (andI .u8 (b 31) 127) b))) unitFO) (addFO (mulFO limbsFO (squareFO (fromBytesFO (up 31 (andI .u8 (b 31) 127) b)))) unitFO)).1 (fun _ => 0))))), true)))))
theorem decodeP_t (b : (Nat → Int)) : awp Try.prog o58O noG 300 (body Try.f55) (ends Try.prog Try.f55 fun v _ => okV (V.tup [(V.ints .u64 20 (decodeP b).1), (V.bool (decodeP b).2)]) v) ⟨[(V.ints .u8 32 b)] ++ List.replicate 58 V.un, []⟩ = (mB (!(canonicalFO (up 31 (andI .u8 (b 31) 127) b))) ((V.tup [(V.ints .u64 20 (fun _ => 0)), (V.bool false)]).den z0 = (V.tup [(V.ints .u64 20 (decodeP b).1), (V.bool (decodeP b).2)]).den z0) (mB (!(sqrtFO (subFO (squareFO (fromBytesFO (up 31 (andI .u8 (b 31) 127) b))) unitFO) (addFO (mulFO limbsFO (squareFO (fromBytesFO (up 31 (andI .u8 (b 31) 127) b)))) unitFO)).2) ((V.tup [(V.ints .u64 20 (fun _ => 0)), (V.bool false)]).den z0 = (V.tup [(V.ints .u64 20 (decodeP b).1), (V.bool (decodeP b).2)]).den z0) (mB ((shrI .u8 (b 31) 7) == 1) (mB (isZeroFO (sqrtFO (subFO (squareFO (fromBytesFO (up 31 (andI .u8 (b 31) 127) b))) unitFO) (addFO (mulFO limbsFO (squareFO (fromBytesFO (up 31 (andI .u8 (b 31) 127) b)))) unitFO)).1) ((V.tup [(V.ints .u64 20 (fun _ => 0)), (V.bool false)]).den z0 = (V.tup [(V.ints .u64 20 (decodeP b).1), (V.bool (decodeP b).2)]).den z0) (mB ((shrI .u8 (b 31) 7) == 1) ((V.tup [(V.ints .u64 20 (spl 15 5 20 (mulFO (negFO (sqrtFO (subFO (squareFO (fromBytesFO (up 31 (andI .u8 (b 31) 127) b))) unitFO) (addFO (mulFO limbsFO (squareFO (fromBytesFO (up 31 (andI .u8 (b 31) 127) b)))) unitFO)).1) (fromBytesFO (up 31 (andI .u8 (b 31) 127) b))) (spl 10 5 20 unitFO (spl 5 5 20 (fromBytesFO (up 31 (andI .u8 (b 31) 127) b)) (spl 0 5 20 (negFO (sqrtFO (subFO (squareFO (fromBytesFO (up 31 (andI .u8 (b 31) 127) b))) unitFO) (addFO (mulFO limbsFO (squareFO (fromBytesFO (up 31 (andI .u8 (b 31) 127) b)))) unitFO)).1) (fun _ => 0)))))), (V.bool true)]).den z0 = (V.tup [(V.ints .u64 20 (decodeP b).1), (V.bool (decodeP b).2)]).den z0) ((V.tup [(V.ints .u64 20 (spl 15 5 20 (mulFO (sqrtFO (subFO (squareFO (fromBytesFO (up 31 (andI .u8 (b 31) 127) b))) unitFO) (addFO (mulFO limbsFO (squareFO (fromBytesFO (up 31 (andI .u8 (b 31) 127) b)))) unitFO)).1 (fromBytesFO (up 31 (andI .u8 (b 31) 127) b))) (spl 10 5 20 unitFO (spl 5 5 20 (fromBytesFO (up 31 (andI .u8 (b 31) 127) b)) (spl 0 5 20 (sqrtFO (subFO (squareFO (fromBytesFO (up 31 (andI .u8 (b 31) 127) b))) unitFO) (addFO (mulFO limbsFO (squareFO (fromBytesFO (up 31 (andI .u8 (b 31) 127) b)))) unitFO)).1 (fun _ => 0)))))), (V.bool true)]).den z0 = (V.tup [(V.ints .u64 20 (decodeP b).1), (V.bool (decodeP b).2)]).den z0))) (mB ((shrI .u8 (b 31) 7) == 1) ((V.tup [(V.ints .u64 20 (spl 15 5 20 (mulFO (negFO (sqrtFO (subFO (squareFO (fromBytesFO (up 31 (andI .u8 (b 31) 127) b))) unitFO) (addFO (mulFO limbsFO (squareFO (fromBytesFO (up 31 (andI .u8 (b 31) 127) b)))) unitFO)).1) (fromBytesFO (up 31 (andI .u8 (b 31) 127) b))) (spl 10 5 20 unitFO (spl 5 5 20 (fromBytesFO (up 31 (andI .u8 (b 31) 127) b)) (spl 0 5 20 (negFO (sqrtFO (subFO (squareFO (fromBytesFO (up 31 (andI .u8 (b 31) 127) b))) unitFO) (addFO (mulFO limbsFO (squareFO (fromBytesFO (up 31 (andI .u8 (b 31) 127) b)))) unitFO)).1) (fun _ => 0)))))), (V.bool true)]).den z0 = (V.tup [(V.ints .u64 20 (decodeP b).1), (V.bool (decodeP b).2)]).den z0) ((V.tup [(V.ints .u64 20 (spl 15 5 20 (mulFO (sqrtFO (subFO (squareFO (fromBytesFO (up 31 (andI .u8 (b 31) 127) b))) unitFO) (addFO (mulFO limbsFO (squareFO (fromBytesFO (up 31 (andI .u8 (b 31) 127) b)))) unitFO)).1 (fromBytesFO (up 31 (andI .u8 (b 31) 127) b))) (spl 10 5 20 unitFO (spl 5 5 20 (fromBytesFO (up 31 (andI .u8 (b 31) 127) b)) (spl 0 5 20 (sqrtFO (subFO (squareFO (fromBytesFO (up 31 (andI .u8 (b 31) 127) b))) unitFO) (addFO (mulFO limbsFO (squareFO (fromBytesFO (up 31 (andI .u8 (b 31) 127) b)))) unitFO)).1 (fun _ => 0)))))), (V.bool true)]).den z0 = (V.tup [(V.ints .u64 20 (decodeP b).1), (V.bool (decodeP b).2)]).den z0))))) := by kernel_rfl
theorem decodeP_a (b : (Nat → Int)) : awp Try.prog o58O noG 300 (body Try.f55) (ends Try.prog Try.f55 fun v _ => okV (V.tup [(V.ints .u64 20 (decodeP b).1), (V.bool (decodeP b).2)]) v) ⟨[(V.ints .u8 32 b)] ++ List.replicate 58 V.un, []⟩ := by
  rw [decodeP_t]
  refine mBt (fun h1 => ?_) (fun h1 => ?_)
  · simp only [decodeP, h1, cond_true]
  · refine mBt (fun h2 => ?_) (fun h2 => ?_)
    · simp only [decodeP, h1, h2, cond_true, cond_false]
    · refine mBt (fun h3 => ?_) (fun h3 => ?_)
      · refine mBt (fun h4 => ?_) (fun h4 => ?_)
        · simp only [decodeP, h1, h2, h3, h4, cond_true, cond_false]
        · refine mBt (fun h5 => ?_) (fun h5 => ?_)
          · simp only [decodeP, h1, h2, h3, h4, cond_true, cond_false]
          · simp [h3] at h5
      · refine mBt (fun h4 => ?_) (fun h4 => ?_)
        · simp [h3] at h4
        · simp only [decodeP, h1, h2, h3, cond_false]
noncomputable def g55 : List V → Option (Bool × V) := fun | [.ints .u8 32 b] => some (true, (V.tup [(V.ints .u64 20 (decodeP b).1), (V.bool (decodeP b).2)])) | _ => none
theorem decodeP_p (b : (Nat → Int)) : (∀ μ μ', V.den μ' (V.tup [(V.ints .u64 20 (decodeP b).1), (V.bool (decodeP b).2)]) = V.den μ (V.tup [(V.ints .u64 20 (decodeP b).1), (V.bool (decodeP b).2)])) ∧ ∀ μ w, PureAt Try.prog 55 (([(V.ints .u8 32 b)] : List V).map (V.den μ)).toArray (V.den μ (V.tup [(V.ints .u64 20 (decodeP b).1), (V.bool (decodeP b).2)])) w :=
  pure_ok (F := o58O) (N := 300) (fn := Try.f55) (args := [(V.ints .u8 32 b)]) (r := (V.tup [(V.ints .u64 20 (decodeP b).1), (V.bool (decodeP b).2)])) (n := 58) hM o58O_ok (noG_ok _) Try.func55 (by kernel_rfl) (by kernel_rfl) (by kernel_rfl) (by kernel_rfl) (decodeP_a b) (by kernel_rfl)
theorem g55_ok (vs : List V) (v : V) (h : g55 vs = some (true, v)) : (∀ μ μ', v.den μ' = v.den μ) ∧ ∀ μ w, PureAt Try.prog 55 (vs.map (V.den μ)).toArray (v.den μ) w := by
  unfold g55 at h
  split at h
  · simp only [Option.some.injEq, Prod.mk.injEq, true_and] at h
    subst h
    exact decodeP_p _
  · simp at h
noncomputable def o55 : Orc := ext 55 g55 o58O
theorem o55_ok : OrcOK Try.prog o55 := ext_ok o58O_ok g55_ok

theorem decodePO_ex : ∃ f : (Nat → Int) → ((Nat → Int) × Bool), f = decodeP := ⟨_, rfl⟩
/-- decodeP, by a name that is not unfolded. -/
noncomputable def decodePO : (Nat → Int) → ((Nat → Int) × Bool) := Classical.choose decodePO_ex
theorem decodePO_eq : decodePO = decodeP := Classical.choose_spec decodePO_ex
noncomputable def g55O : List V → Option (Bool × V) := fun | [.ints .u8 32 b] => some (true, (V.tup [(V.ints .u64 20 (decodePO b).1), (V.bool (decodePO b).2)])) | _ => none
theorem g55O_ok (vs : List V) (v : V) (h : g55O vs = some (true, v)) : (∀ μ μ', v.den μ' = v.den μ) ∧ ∀ μ w, PureAt Try.prog 55 (vs.map (V.den μ)).toArray (v.den μ) w := by
  unfold g55O at h
  split at h
  · simp only [Option.some.injEq, Prod.mk.injEq, true_and] at h
    subst h
    rw [decodePO_eq]
    exact decodeP_p _
  · simp at h
noncomputable def o55O : Orc := ext 55 g55O o55
theorem o55O_ok : OrcOK Try.prog o55O := ext_ok o55_ok g55O_ok

/- curve.Small -/
noncomputable def smallP (q : (Nat → Int)) : Bool := (equalPO (doublePO (doublePO (doublePO q))) zeroPO)
theorem smallP_t (q : (Nat → Int)) : awp Try.prog o55O noG 300 (body Try.f62) (ends Try.prog Try.f62 fun v _ => okV (V.bool (smallP q)) v) ⟨[(V.ints .u64 20 q)] ++ List.replicate 8 V.un, []⟩ = ((V.bool (smallP q)).den z0 = (V.bool (smallP q)).den z0) := by kernel_rfl
theorem smallP_a (q : (Nat → Int)) : awp Try.prog o55O noG 300 (body Try.f62) (ends Try.prog Try.f62 fun v _ => okV (V.bool (smallP q)) v) ⟨[(V.ints .u64 20 q)] ++ List.replicate 8 V.un, []⟩ := by rw [smallP_t]
noncomputable def g62 : List V → Option (Bool × V) := fun | [.ints .u64 20 q] => some (true, (V.bool (smallP q))) | _ => none
theorem smallP_p (q : (Nat → Int)) : (∀ μ μ', V.den μ' (V.bool (smallP q)) = V.den μ (V.bool (smallP q))) ∧ ∀ μ w, PureAt Try.prog 62 (([(V.ints .u64 20 q)] : List V).map (V.den μ)).toArray (V.den μ (V.bool (smallP q))) w :=
  pure_ok (F := o55O) (N := 300) (fn := Try.f62) (args := [(V.ints .u64 20 q)]) (r := (V.bool (smallP q))) (n := 8) hM o55O_ok (noG_ok _) Try.func62 (by kernel_rfl) (by kernel_rfl) (by kernel_rfl) (by kernel_rfl) (smallP_a q) (by kernel_rfl)
theorem g62_ok (vs : List V) (v : V) (h : g62 vs = some (true, v)) : (∀ μ μ', v.den μ' = v.den μ) ∧ ∀ μ w, PureAt Try.prog 62 (vs.map (V.den μ)).toArray (v.den μ) w := by
  unfold g62 at h
  split at h
  · simp only [Option.some.injEq, Prod.mk.injEq, true_and] at h
    subst h
    exact smallP_p _
  · simp at h
noncomputable def o62 : Orc := ext 62 g62 o55O
theorem o62_ok : OrcOK Try.prog o62 := ext_ok o55O_ok g62_ok

theorem smallPO_ex : ∃ f : (Nat → Int) → Bool, f = smallP := ⟨_, rfl⟩
/-- smallP, by a name that is not unfolded. -/
noncomputable def smallPO : (Nat → Int) → Bool := Classical.choose smallPO_ex
theorem smallPO_eq : smallPO = smallP := Classical.choose_spec smallPO_ex
noncomputable def g62O : List V → Option (Bool × V) := fun | [.ints .u64 20 q] => some (true, (V.bool (smallPO q))) | _ => none
theorem g62O_ok (vs : List V) (v : V) (h : g62O vs = some (true, v)) : (∀ μ μ', v.den μ' = v.den μ) ∧ ∀ μ w, PureAt Try.prog 62 (vs.map (V.den μ)).toArray (v.den μ) w := by
  unfold g62O at h
  split at h
  · simp only [Option.some.injEq, Prod.mk.injEq, true_and] at h
    subst h
    rw [smallPO_eq]
    exact smallP_p _
  · simp at h
noncomputable def o62O : Orc := ext 62 g62O o62
theorem o62O_ok : OrcOK Try.prog o62O := ext_ok o62_ok g62O_ok
end Go.Proofs.Ytbnclikjbnfodaa

namespace Go.Proofs.Ytbnclikjbnfodaa
open Go.Ev
/- fareboxref07.D -/
noncomputable def rD : (Nat → Int) := (rFromBytesO (up 31 82 (up 30 3 (up 29 108 (up 28 238 (up 27 43 (up 26 111 (up 25 254 (up 24 115 (up 23 140 (up 22 199 (up 21 64 (up 20 121 (up 19 119 (up 18 121 (up 17 232 (up 16 152 (up 15 0 (up 14 112 (up 13 10 (up 12 77 (up 11 65 (up 10 65 (up 9 216 (up 8 171 (up 7 117 (up 6 235 (up 5 77 (up 4 202 (up 3 19 (up 2 89 (up 1 120 (up 0 163 (fun _ => 0))))))))))))))))))))))))))))))))))
theorem rD_t : awp Try.prog o62O noG 300 (body Try.f120) (ends Try.prog Try.f120 fun v _ => okV (V.ints .u64 10 rD) v) ⟨[] ++ List.replicate 3 V.un, []⟩ = ((V.ints .u64 10 rD).den z0 = (V.ints .u64 10 rD).den z0) := by kernel_rfl
theorem rD_a : awp Try.prog o62O noG 300 (body Try.f120) (ends Try.prog Try.f120 fun v _ => okV (V.ints .u64 10 rD) v) ⟨[] ++ List.replicate 3 V.un, []⟩ := by rw [rD_t]
noncomputable def g120 : List V → Option (Bool × V) := fun | [] => some (true, (V.ints .u64 10 rD)) | _ => none
theorem rD_p : (∀ μ μ', V.den μ' (V.ints .u64 10 rD) = V.den μ (V.ints .u64 10 rD)) ∧ ∀ μ w, PureAt Try.prog 120 (([] : List V).map (V.den μ)).toArray (V.den μ (V.ints .u64 10 rD)) w :=
  pure_ok (F := o62O) (N := 300) (fn := Try.f120) (args := []) (r := (V.ints .u64 10 rD)) (n := 3) hM o62O_ok (noG_ok _) Try.func120 (by kernel_rfl) (by kernel_rfl) (by kernel_rfl) (by kernel_rfl) (rD_a) (by kernel_rfl)
theorem g120_ok (vs : List V) (v : V) (h : g120 vs = some (true, v)) : (∀ μ μ', v.den μ' = v.den μ) ∧ ∀ μ w, PureAt Try.prog 120 (vs.map (V.den μ)).toArray (v.den μ) w := by
  unfold g120 at h
  split at h
  · simp only [Option.some.injEq, Prod.mk.injEq, true_and] at h
    subst h
    exact rD_p
  · simp at h
noncomputable def o120 : Orc := ext 120 g120 o62O
theorem o120_ok : OrcOK Try.prog o120 := ext_ok o62O_ok g120_ok

theorem rDO_ex : ∃ f : (Nat → Int), f = rD := ⟨_, rfl⟩
/-- rD, by a name that is not unfolded. -/
noncomputable def rDO : (Nat → Int) := Classical.choose rDO_ex
theorem rDO_eq : rDO = rD := Classical.choose_spec rDO_ex
noncomputable def g120O : List V → Option (Bool × V) := fun | [] => some (true, (V.ints .u64 10 rDO)) | _ => none
theorem g120O_ok (vs : List V) (v : V) (h : g120O vs = some (true, v)) : (∀ μ μ', v.den μ' = v.den μ) ∧ ∀ μ w, PureAt Try.prog 120 (vs.map (V.den μ)).toArray (v.den μ) w := by
  unfold g120O at h
  split at h
  · simp only [Option.some.injEq, Prod.mk.injEq, true_and] at h
    subst h
    rw [rDO_eq]
    exact rD_p
  · simp at h
noncomputable def o120O : Orc := ext 120 g120O o120
theorem o120O_ok : OrcOK Try.prog o120O := ext_ok o120_ok g120O_ok

/- fareboxref07.across -/
noncomputable def rAcross (y : (Nat → Int)) : ((Nat → Int) × Bool) := ((rSqrtO (rSubO (rMulO y y) (rSmallO 1)) (rAddO (rMulO rDO (rMulO y y)) (rSmallO 1))).1, (rSqrtO (rSubO (rMulO y y) (rSmallO 1)) (rAddO (rMulO rDO (rMulO y y)) (rSmallO 1))).2)
theorem rAcross_t (y : (Nat → Int)) : awp Try.prog o120O noG 300 (body Try.f95) (ends Try.prog Try.f95 fun v _ => okV (V.tup [(V.ints .u64 10 (rAcross y).1), (V.bool (rAcross y).2)]) v) ⟨[(V.ints .u64 10 y)] ++ List.replicate 22 V.un, []⟩ = ((V.tup [(V.ints .u64 10 (rAcross y).1), (V.bool (rAcross y).2)]).den z0 = (V.tup [(V.ints .u64 10 (rAcross y).1), (V.bool (rAcross y).2)]).den z0) := by kernel_rfl
theorem rAcross_a (y : (Nat → Int)) : awp Try.prog o120O noG 300 (body Try.f95) (ends Try.prog Try.f95 fun v _ => okV (V.tup [(V.ints .u64 10 (rAcross y).1), (V.bool (rAcross y).2)]) v) ⟨[(V.ints .u64 10 y)] ++ List.replicate 22 V.un, []⟩ := by rw [rAcross_t]
noncomputable def g95 : List V → Option (Bool × V) := fun | [.ints .u64 10 y] => some (true, (V.tup [(V.ints .u64 10 (rAcross y).1), (V.bool (rAcross y).2)])) | _ => none
theorem rAcross_p (y : (Nat → Int)) : (∀ μ μ', V.den μ' (V.tup [(V.ints .u64 10 (rAcross y).1), (V.bool (rAcross y).2)]) = V.den μ (V.tup [(V.ints .u64 10 (rAcross y).1), (V.bool (rAcross y).2)])) ∧ ∀ μ w, PureAt Try.prog 95 (([(V.ints .u64 10 y)] : List V).map (V.den μ)).toArray (V.den μ (V.tup [(V.ints .u64 10 (rAcross y).1), (V.bool (rAcross y).2)])) w :=
  pure_ok (F := o120O) (N := 300) (fn := Try.f95) (args := [(V.ints .u64 10 y)]) (r := (V.tup [(V.ints .u64 10 (rAcross y).1), (V.bool (rAcross y).2)])) (n := 22) hM o120O_ok (noG_ok _) Try.func95 (by kernel_rfl) (by kernel_rfl) (by kernel_rfl) (by kernel_rfl) (rAcross_a y) (by kernel_rfl)
theorem g95_ok (vs : List V) (v : V) (h : g95 vs = some (true, v)) : (∀ μ μ', v.den μ' = v.den μ) ∧ ∀ μ w, PureAt Try.prog 95 (vs.map (V.den μ)).toArray (v.den μ) w := by
  unfold g95 at h
  split at h
  · simp only [Option.some.injEq, Prod.mk.injEq, true_and] at h
    subst h
    exact rAcross_p _
  · simp at h
noncomputable def o95 : Orc := ext 95 g95 o120O
theorem o95_ok : OrcOK Try.prog o95 := ext_ok o120O_ok g95_ok

theorem rAcrossO_ex : ∃ f : (Nat → Int) → ((Nat → Int) × Bool), f = rAcross := ⟨_, rfl⟩
/-- rAcross, by a name that is not unfolded. -/
noncomputable def rAcrossO : (Nat → Int) → ((Nat → Int) × Bool) := Classical.choose rAcrossO_ex
theorem rAcrossO_eq : rAcrossO = rAcross := Classical.choose_spec rAcrossO_ex
noncomputable def g95O : List V → Option (Bool × V) := fun | [.ints .u64 10 y] => some (true, (V.tup [(V.ints .u64 10 (rAcrossO y).1), (V.bool (rAcrossO y).2)])) | _ => none
theorem g95O_ok (vs : List V) (v : V) (h : g95O vs = some (true, v)) : (∀ μ μ', v.den μ' = v.den μ) ∧ ∀ μ w, PureAt Try.prog 95 (vs.map (V.den μ)).toArray (v.den μ) w := by
  unfold g95O at h
  split at h
  · simp only [Option.some.injEq, Prod.mk.injEq, true_and] at h
    subst h
    rw [rAcrossO_eq]
    exact rAcross_p _
  · simp at h
noncomputable def o95O : Orc := ext 95 g95O o95
theorem o95O_ok : OrcOK Try.prog o95O := ext_ok o95_ok g95O_ok

/- fareboxref07.affine -/
noncomputable def rAffine (x : (Nat → Int)) (y : (Nat → Int)) : (Nat → Int) := (L [(x 0), (x 1), (x 2), (x 3), (x 4), (x 5), (x 6), (x 7), (x 8), (x 9), (y 0), (y 1), (y 2), (y 3), (y 4), (y 5), (y 6), (y 7), (y 8), (y 9), ((rSmallO 1) 0), ((rSmallO 1) 1), ((rSmallO 1) 2), ((rSmallO 1) 3), ((rSmallO 1) 4), ((rSmallO 1) 5), ((rSmallO 1) 6), ((rSmallO 1) 7), ((rSmallO 1) 8), ((rSmallO 1) 9)])
theorem rAffine_t (x : (Nat → Int)) (y : (Nat → Int)) : awp Try.prog o95O noG 300 (body Try.f96) (ends Try.prog Try.f96 fun v _ => okV (V.ints .u64 30 (rAffine x y)) v) ⟨[(V.ints .u64 10 x), (V.ints .u64 10 y)] ++ List.replicate 7 V.un, []⟩ = ((V.ints .u64 30 (rAffine x y)).den z0 = (V.ints .u64 30 (rAffine x y)).den z0) := by kernel_rfl
theorem rAffine_a (x : (Nat → Int)) (y : (Nat → Int)) : awp Try.prog o95O noG 300 (body Try.f96) (ends Try.prog Try.f96 fun v _ => okV (V.ints .u64 30 (rAffine x y)) v) ⟨[(V.ints .u64 10 x), (V.ints .u64 10 y)] ++ List.replicate 7 V.un, []⟩ := by rw [rAffine_t]
noncomputable def g96 : List V → Option (Bool × V) := fun | [.ints .u64 10 x, .ints .u64 10 y] => some (true, (V.ints .u64 30 (rAffine x y))) | _ => none
theorem rAffine_p (x : (Nat → Int)) (y : (Nat → Int)) : (∀ μ μ', V.den μ' (V.ints .u64 30 (rAffine x y)) = V.den μ (V.ints .u64 30 (rAffine x y))) ∧ ∀ μ w, PureAt Try.prog 96 (([(V.ints .u64 10 x), (V.ints .u64 10 y)] : List V).map (V.den μ)).toArray (V.den μ (V.ints .u64 30 (rAffine x y))) w :=
  pure_ok (F := o95O) (N := 300) (fn := Try.f96) (args := [(V.ints .u64 10 x), (V.ints .u64 10 y)]) (r := (V.ints .u64 30 (rAffine x y))) (n := 7) hM o95O_ok (noG_ok _) Try.func96 (by kernel_rfl) (by kernel_rfl) (by kernel_rfl) (by kernel_rfl) (rAffine_a x y) (by kernel_rfl)
theorem g96_ok (vs : List V) (v : V) (h : g96 vs = some (true, v)) : (∀ μ μ', v.den μ' = v.den μ) ∧ ∀ μ w, PureAt Try.prog 96 (vs.map (V.den μ)).toArray (v.den μ) w := by
  unfold g96 at h
  split at h
  · simp only [Option.some.injEq, Prod.mk.injEq, true_and] at h
    subst h
    exact rAffine_p _ _
  · simp at h
noncomputable def o96 : Orc := ext 96 g96 o95O
theorem o96_ok : OrcOK Try.prog o96 := ext_ok o95O_ok g96_ok

theorem rAffineO_ex : ∃ f : (Nat → Int) → (Nat → Int) → (Nat → Int), f = rAffine := ⟨_, rfl⟩
/-- rAffine, by a name that is not unfolded. -/
noncomputable def rAffineO : (Nat → Int) → (Nat → Int) → (Nat → Int) := Classical.choose rAffineO_ex
theorem rAffineO_eq : rAffineO = rAffine := Classical.choose_spec rAffineO_ex
noncomputable def g96O : List V → Option (Bool × V) := fun | [.ints .u64 10 x, .ints .u64 10 y] => some (true, (V.ints .u64 30 (rAffineO x y))) | _ => none
theorem g96O_ok (vs : List V) (v : V) (h : g96O vs = some (true, v)) : (∀ μ μ', v.den μ' = v.den μ) ∧ ∀ μ w, PureAt Try.prog 96 (vs.map (V.den μ)).toArray (v.den μ) w := by
  unfold g96O at h
  split at h
  · simp only [Option.some.injEq, Prod.mk.injEq, true_and] at h
    subst h
    rw [rAffineO_eq]
    exact rAffine_p _ _
  · simp at h
noncomputable def o96O : Orc := ext 96 g96O o96
theorem o96O_ok : OrcOK Try.prog o96O := ext_ok o96_ok g96O_ok

/- fareboxref07.OnCurve -/
noncomputable def rOnP (q : (Nat → Int)) : Bool := (cond (rIsZeroO (rOfO (sh 10 q))) false (cond (!(eqN 10 (rMulO (rOfO (sh 0 q)) (rOfO (sh 5 q))) (rMulO (rOfO (sh 10 q)) (rOfO (sh 15 q))))) false (eqN 10 (rSubO (rMulO (rOfO (sh 5 q)) (rOfO (sh 5 q))) (rMulO (rOfO (sh 0 q)) (rOfO (sh 0 q)))) (rAddO (rMulO (rOfO (sh 10 q)) (rOfO (sh 10 q))) (rMulO rDO (rMulO (rOfO (sh 15 q)) (rOfO (sh 15 q))))))))
theorem rOnP_t (q : (Nat → Int)) : awp Try.prog o96O noG 300 (body Try.f97) (ends Try.prog Try.f97 fun v _ => okV (V.bool (rOnP q)) v) ⟨[(V.ints .u64 20 q)] ++ List.replicate 50 V.un, []⟩ = (mB (rIsZeroO (rOfO (sh 10 q))) ((V.bool false).den z0 = (V.bool (rOnP q)).den z0) (mB (!(eqN 10 (rMulO (rOfO (sh 0 q)) (rOfO (sh 5 q))) (rMulO (rOfO (sh 10 q)) (rOfO (sh 15 q))))) ((V.bool false).den z0 = (V.bool (rOnP q)).den z0) ((V.bool (eqN 10 (rSubO (rMulO (rOfO (sh 5 q)) (rOfO (sh 5 q))) (rMulO (rOfO (sh 0 q)) (rOfO (sh 0 q)))) (rAddO (rMulO (rOfO (sh 10 q)) (rOfO (sh 10 q))) (rMulO rDO (rMulO (rOfO (sh 15 q)) (rOfO (sh 15 q))))))).den z0 = (V.bool (rOnP q)).den z0))) := by kernel_rfl
theorem rOnP_a (q : (Nat → Int)) : awp Try.prog o96O noG 300 (body Try.f97) (ends Try.prog Try.f97 fun v _ => okV (V.bool (rOnP q)) v) ⟨[(V.ints .u64 20 q)] ++ List.replicate 50 V.un, []⟩ := by
  rw [rOnP_t]
  refine mBt (fun h1 => ?_) (fun h1 => ?_)
  · simp only [rOnP, h1, cond_true]
  · refine mBt (fun h2 => ?_) (fun h2 => ?_)
    · simp only [rOnP, h1, h2, cond_true, cond_false]
    · simp only [rOnP, h1, h2, cond_false]
noncomputable def g97 : List V → Option (Bool × V) := fun | [.ints .u64 20 q] => some (true, (V.bool (rOnP q))) | _ => none
theorem rOnP_p (q : (Nat → Int)) : (∀ μ μ', V.den μ' (V.bool (rOnP q)) = V.den μ (V.bool (rOnP q))) ∧ ∀ μ w, PureAt Try.prog 97 (([(V.ints .u64 20 q)] : List V).map (V.den μ)).toArray (V.den μ (V.bool (rOnP q))) w :=
  pure_ok (F := o96O) (N := 300) (fn := Try.f97) (args := [(V.ints .u64 20 q)]) (r := (V.bool (rOnP q))) (n := 50) hM o96O_ok (noG_ok _) Try.func97 (by kernel_rfl) (by kernel_rfl) (by kernel_rfl) (by kernel_rfl) (rOnP_a q) (by kernel_rfl)
theorem g97_ok (vs : List V) (v : V) (h : g97 vs = some (true, v)) : (∀ μ μ', v.den μ' = v.den μ) ∧ ∀ μ w, PureAt Try.prog 97 (vs.map (V.den μ)).toArray (v.den μ) w := by
  unfold g97 at h
  split at h
  · simp only [Option.some.injEq, Prod.mk.injEq, true_and] at h
    subst h
    exact rOnP_p _
  · simp at h
noncomputable def o97 : Orc := ext 97 g97 o96O
theorem o97_ok : OrcOK Try.prog o97 := ext_ok o96O_ok g97_ok

theorem rOnPO_ex : ∃ f : (Nat → Int) → Bool, f = rOnP := ⟨_, rfl⟩
/-- rOnP, by a name that is not unfolded. -/
noncomputable def rOnPO : (Nat → Int) → Bool := Classical.choose rOnPO_ex
theorem rOnPO_eq : rOnPO = rOnP := Classical.choose_spec rOnPO_ex
noncomputable def g97O : List V → Option (Bool × V) := fun | [.ints .u64 20 q] => some (true, (V.bool (rOnPO q))) | _ => none
theorem g97O_ok (vs : List V) (v : V) (h : g97O vs = some (true, v)) : (∀ μ μ', v.den μ' = v.den μ) ∧ ∀ μ w, PureAt Try.prog 97 (vs.map (V.den μ)).toArray (v.den μ) w := by
  unfold g97O at h
  split at h
  · simp only [Option.some.injEq, Prod.mk.injEq, true_and] at h
    subst h
    rw [rOnPO_eq]
    exact rOnP_p _
  · simp at h
noncomputable def o97O : Orc := ext 97 g97O o97
theorem o97O_ok : OrcOK Try.prog o97O := ext_ok o97_ok g97O_ok

/- fareboxref07.Of -/
noncomputable def rOfP (q : (Nat → Int)) : (Nat → Int) := (L [((rOfO (sh 0 q)) 0), ((rOfO (sh 0 q)) 1), ((rOfO (sh 0 q)) 2), ((rOfO (sh 0 q)) 3), ((rOfO (sh 0 q)) 4), ((rOfO (sh 0 q)) 5), ((rOfO (sh 0 q)) 6), ((rOfO (sh 0 q)) 7), ((rOfO (sh 0 q)) 8), ((rOfO (sh 0 q)) 9), ((rOfO (sh 5 q)) 0), ((rOfO (sh 5 q)) 1), ((rOfO (sh 5 q)) 2), ((rOfO (sh 5 q)) 3), ((rOfO (sh 5 q)) 4), ((rOfO (sh 5 q)) 5), ((rOfO (sh 5 q)) 6), ((rOfO (sh 5 q)) 7), ((rOfO (sh 5 q)) 8), ((rOfO (sh 5 q)) 9), ((rOfO (sh 10 q)) 0), ((rOfO (sh 10 q)) 1), ((rOfO (sh 10 q)) 2), ((rOfO (sh 10 q)) 3), ((rOfO (sh 10 q)) 4), ((rOfO (sh 10 q)) 5), ((rOfO (sh 10 q)) 6), ((rOfO (sh 10 q)) 7), ((rOfO (sh 10 q)) 8), ((rOfO (sh 10 q)) 9)])
theorem rOfP_t (q : (Nat → Int)) : awp Try.prog o97O noG 300 (body Try.f99) (ends Try.prog Try.f99 fun v _ => okV (V.ints .u64 30 (rOfP q)) v) ⟨[(V.ints .u64 20 q)] ++ List.replicate 12 V.un, []⟩ = ((V.ints .u64 30 (rOfP q)).den z0 = (V.ints .u64 30 (rOfP q)).den z0) := by kernel_rfl
theorem rOfP_a (q : (Nat → Int)) : awp Try.prog o97O noG 300 (body Try.f99) (ends Try.prog Try.f99 fun v _ => okV (V.ints .u64 30 (rOfP q)) v) ⟨[(V.ints .u64 20 q)] ++ List.replicate 12 V.un, []⟩ := by rw [rOfP_t]
noncomputable def g99 : List V → Option (Bool × V) := fun | [.ints .u64 20 q] => some (true, (V.ints .u64 30 (rOfP q))) | _ => none
theorem rOfP_p (q : (Nat → Int)) : (∀ μ μ', V.den μ' (V.ints .u64 30 (rOfP q)) = V.den μ (V.ints .u64 30 (rOfP q))) ∧ ∀ μ w, PureAt Try.prog 99 (([(V.ints .u64 20 q)] : List V).map (V.den μ)).toArray (V.den μ (V.ints .u64 30 (rOfP q))) w :=
  pure_ok (F := o97O) (N := 300) (fn := Try.f99) (args := [(V.ints .u64 20 q)]) (r := (V.ints .u64 30 (rOfP q))) (n := 12) hM o97O_ok (noG_ok _) Try.func99 (by kernel_rfl) (by kernel_rfl) (by kernel_rfl) (by kernel_rfl) (rOfP_a q) (by kernel_rfl)
theorem g99_ok (vs : List V) (v : V) (h : g99 vs = some (true, v)) : (∀ μ μ', v.den μ' = v.den μ) ∧ ∀ μ w, PureAt Try.prog 99 (vs.map (V.den μ)).toArray (v.den μ) w := by
  unfold g99 at h
  split at h
  · simp only [Option.some.injEq, Prod.mk.injEq, true_and] at h
    subst h
    exact rOfP_p _
  · simp at h
noncomputable def o99 : Orc := ext 99 g99 o97O
theorem o99_ok : OrcOK Try.prog o99 := ext_ok o97O_ok g99_ok

theorem rOfPO_ex : ∃ f : (Nat → Int) → (Nat → Int), f = rOfP := ⟨_, rfl⟩
/-- rOfP, by a name that is not unfolded. -/
noncomputable def rOfPO : (Nat → Int) → (Nat → Int) := Classical.choose rOfPO_ex
theorem rOfPO_eq : rOfPO = rOfP := Classical.choose_spec rOfPO_ex
noncomputable def g99O : List V → Option (Bool × V) := fun | [.ints .u64 20 q] => some (true, (V.ints .u64 30 (rOfPO q))) | _ => none
theorem g99O_ok (vs : List V) (v : V) (h : g99O vs = some (true, v)) : (∀ μ μ', v.den μ' = v.den μ) ∧ ∀ μ w, PureAt Try.prog 99 (vs.map (V.den μ)).toArray (v.den μ) w := by
  unfold g99O at h
  split at h
  · simp only [Option.some.injEq, Prod.mk.injEq, true_and] at h
    subst h
    rw [rOfPO_eq]
    exact rOfP_p _
  · simp at h
noncomputable def o99O : Orc := ext 99 g99O o99
theorem o99O_ok : OrcOK Try.prog o99O := ext_ok o99_ok g99O_ok

/- fareboxref07.Equal -/
noncomputable def rEqualP (a : (Nat → Int)) (b : (Nat → Int)) : Bool := (cond (eqN 10 (rMulO (sh 0 a) (sh 20 b)) (rMulO (sh 0 b) (sh 20 a))) (eqN 10 (rMulO (sh 10 a) (sh 20 b)) (rMulO (sh 10 b) (sh 20 a))) false)
theorem rEqualP_t (a : (Nat → Int)) (b : (Nat → Int)) : awp Try.prog o99O noG 300 (body Try.f98) (ends Try.prog Try.f98 fun v _ => okV (V.bool (rEqualP a b)) v) ⟨[(V.ints .u64 30 a), (V.ints .u64 30 b)] ++ List.replicate 29 V.un, []⟩ = (mB (eqN 10 (rMulO (sh 0 a) (sh 20 b)) (rMulO (sh 0 b) (sh 20 a))) ((V.bool (eqN 10 (rMulO (sh 10 a) (sh 20 b)) (rMulO (sh 10 b) (sh 20 a)))).den z0 = (V.bool (rEqualP a b)).den z0) ((V.bool false).den z0 = (V.bool (rEqualP a b)).den z0)) := by kernel_rfl
theorem rEqualP_a (a : (Nat → Int)) (b : (Nat → Int)) : awp Try.prog o99O noG 300 (body Try.f98) (ends Try.prog Try.f98 fun v _ => okV (V.bool (rEqualP a b)) v) ⟨[(V.ints .u64 30 a), (V.ints .u64 30 b)] ++ List.replicate 29 V.un, []⟩ := by
  rw [rEqualP_t]
  refine mBt (fun h1 => ?_) (fun h1 => ?_)
  · simp only [rEqualP, h1, cond_true]
  · simp only [rEqualP, h1, cond_false]
noncomputable def g98 : List V → Option (Bool × V) := fun | [.ints .u64 30 a, .ints .u64 30 b] => some (true, (V.bool (rEqualP a b))) | _ => none
theorem rEqualP_p (a : (Nat → Int)) (b : (Nat → Int)) : (∀ μ μ', V.den μ' (V.bool (rEqualP a b)) = V.den μ (V.bool (rEqualP a b))) ∧ ∀ μ w, PureAt Try.prog 98 (([(V.ints .u64 30 a), (V.ints .u64 30 b)] : List V).map (V.den μ)).toArray (V.den μ (V.bool (rEqualP a b))) w :=
  pure_ok (F := o99O) (N := 300) (fn := Try.f98) (args := [(V.ints .u64 30 a), (V.ints .u64 30 b)]) (r := (V.bool (rEqualP a b))) (n := 29) hM o99O_ok (noG_ok _) Try.func98 (by kernel_rfl) (by kernel_rfl) (by kernel_rfl) (by kernel_rfl) (rEqualP_a a b) (by kernel_rfl)
theorem g98_ok (vs : List V) (v : V) (h : g98 vs = some (true, v)) : (∀ μ μ', v.den μ' = v.den μ) ∧ ∀ μ w, PureAt Try.prog 98 (vs.map (V.den μ)).toArray (v.den μ) w := by
  unfold g98 at h
  split at h
  · simp only [Option.some.injEq, Prod.mk.injEq, true_and] at h
    subst h
    exact rEqualP_p _ _
  · simp at h
noncomputable def o98 : Orc := ext 98 g98 o99O
theorem o98_ok : OrcOK Try.prog o98 := ext_ok o99O_ok g98_ok

theorem rEqualPO_ex : ∃ f : (Nat → Int) → (Nat → Int) → Bool, f = rEqualP := ⟨_, rfl⟩
/-- rEqualP, by a name that is not unfolded. -/
noncomputable def rEqualPO : (Nat → Int) → (Nat → Int) → Bool := Classical.choose rEqualPO_ex
theorem rEqualPO_eq : rEqualPO = rEqualP := Classical.choose_spec rEqualPO_ex
noncomputable def g98O : List V → Option (Bool × V) := fun | [.ints .u64 30 a, .ints .u64 30 b] => some (true, (V.bool (rEqualPO a b))) | _ => none
theorem g98O_ok (vs : List V) (v : V) (h : g98O vs = some (true, v)) : (∀ μ μ', v.den μ' = v.den μ) ∧ ∀ μ w, PureAt Try.prog 98 (vs.map (V.den μ)).toArray (v.den μ) w := by
  unfold g98O at h
  split at h
  · simp only [Option.some.injEq, Prod.mk.injEq, true_and] at h
    subst h
    rw [rEqualPO_eq]
    exact rEqualP_p _ _
  · simp at h
noncomputable def o98O : Orc := ext 98 g98O o98
theorem o98O_ok : OrcOK Try.prog o98O := ext_ok o98_ok g98O_ok

/- fareboxref07.Is -/
noncomputable def isP (q : (Nat → Int)) (a : (Nat → Int)) : Bool := (cond (rOnPO q) (rEqualPO (rOfPO q) a) false)
theorem isP_t (q : (Nat → Int)) (a : (Nat → Int)) : awp Try.prog o98O noG 300 (body Try.f57) (ends Try.prog Try.f57 fun v _ => okV (V.bool (isP q a)) v) ⟨[(V.ints .u64 20 q), (V.ints .u64 30 a)] ++ List.replicate 11 V.un, []⟩ = (mB (rOnPO q) ((V.bool (rEqualPO (rOfPO q) a)).den z0 = (V.bool (isP q a)).den z0) ((V.bool false).den z0 = (V.bool (isP q a)).den z0)) := by kernel_rfl
theorem isP_a (q : (Nat → Int)) (a : (Nat → Int)) : awp Try.prog o98O noG 300 (body Try.f57) (ends Try.prog Try.f57 fun v _ => okV (V.bool (isP q a)) v) ⟨[(V.ints .u64 20 q), (V.ints .u64 30 a)] ++ List.replicate 11 V.un, []⟩ := by
  rw [isP_t]
  refine mBt (fun h1 => ?_) (fun h1 => ?_)
  · simp only [isP, h1, cond_true]
  · simp only [isP, h1, cond_false]
noncomputable def g57 : List V → Option (Bool × V) := fun | [.ints .u64 20 q, .ints .u64 30 a] => some (true, (V.bool (isP q a))) | _ => none
theorem isP_p (q : (Nat → Int)) (a : (Nat → Int)) : (∀ μ μ', V.den μ' (V.bool (isP q a)) = V.den μ (V.bool (isP q a))) ∧ ∀ μ w, PureAt Try.prog 57 (([(V.ints .u64 20 q), (V.ints .u64 30 a)] : List V).map (V.den μ)).toArray (V.den μ (V.bool (isP q a))) w :=
  pure_ok (F := o98O) (N := 300) (fn := Try.f57) (args := [(V.ints .u64 20 q), (V.ints .u64 30 a)]) (r := (V.bool (isP q a))) (n := 11) hM o98O_ok (noG_ok _) Try.func57 (by kernel_rfl) (by kernel_rfl) (by kernel_rfl) (by kernel_rfl) (isP_a q a) (by kernel_rfl)
theorem g57_ok (vs : List V) (v : V) (h : g57 vs = some (true, v)) : (∀ μ μ', v.den μ' = v.den μ) ∧ ∀ μ w, PureAt Try.prog 57 (vs.map (V.den μ)).toArray (v.den μ) w := by
  unfold g57 at h
  split at h
  · simp only [Option.some.injEq, Prod.mk.injEq, true_and] at h
    subst h
    exact isP_p _ _
  · simp at h
noncomputable def o57 : Orc := ext 57 g57 o98O
theorem o57_ok : OrcOK Try.prog o57 := ext_ok o98O_ok g57_ok

theorem isPO_ex : ∃ f : (Nat → Int) → (Nat → Int) → Bool, f = isP := ⟨_, rfl⟩
/-- isP, by a name that is not unfolded. -/
noncomputable def isPO : (Nat → Int) → (Nat → Int) → Bool := Classical.choose isPO_ex
theorem isPO_eq : isPO = isP := Classical.choose_spec isPO_ex
noncomputable def g57O : List V → Option (Bool × V) := fun | [.ints .u64 20 q, .ints .u64 30 a] => some (true, (V.bool (isPO q a))) | _ => none
theorem g57O_ok (vs : List V) (v : V) (h : g57O vs = some (true, v)) : (∀ μ μ', v.den μ' = v.den μ) ∧ ∀ μ w, PureAt Try.prog 57 (vs.map (V.den μ)).toArray (v.den μ) w := by
  unfold g57O at h
  split at h
  · simp only [Option.some.injEq, Prod.mk.injEq, true_and] at h
    subst h
    rw [isPO_eq]
    exact isP_p _ _
  · simp at h
noncomputable def o57O : Orc := ext 57 g57O o57
theorem o57O_ok : OrcOK Try.prog o57O := ext_ok o57_ok g57O_ok

/- fareboxref07.Decode -/
noncomputable def rDecodeP (b : (Nat → Int)) : ((Nat → Int) × Bool) := (cond (!(rCanonicalO (up 31 (remI (b 31) 128) b))) ((fun _ => 0), false) (cond (!(rAcrossO (rFromBytesO (up 31 (remI (b 31) 128) b))).2) ((fun _ => 0), false) (cond (decide ((b 31) ≥ 128)) (cond (rIsZeroO (rAcrossO (rFromBytesO (up 31 (remI (b 31) 128) b))).1) ((fun _ => 0), false) (cond (decide ((b 31) ≥ 128)) ((rAffineO (rNegO (rAcrossO (rFromBytesO (up 31 (remI (b 31) 128) b))).1) (rFromBytesO (up 31 (remI (b 31) 128) b))), true) ((rAffineO (rAcrossO (rFromBytesO (up 31 (remI (b 31) 128) b))).1 (rFromBytesO (up 31 (remI (b 31) 128) b))), true))) (cond (decide ((b 31) ≥ 128)) ((rAffineO (rNegO (rAcrossO (rFromBytesO (up 31 (remI (b 31) 128) b))).1) (rFromBytesO (up 31 (remI (b 31) 128) b))), true) ((rAffineO (rAcrossO (rFromBytesO (up 31 (remI (b 31) 128) b))).1 (rFromBytesO (up 31 (remI (b 31) 128) b))), true)))))
theorem rDecodeP_t (b : (Nat → Int)) : awp Try.prog o57O noG 300 (body Try.f56) (ends Try.prog Try.f56 fun v _ => okV (V.tup [(V.ints .u64 30 (rDecodeP b).1), (V.bool (rDecodeP b).2)]) v) ⟨[(V.ints .u8 32 b)] ++ List.replicate 41 V.un, []⟩ = (mB (!(rCanonicalO (up 31 (remI (b 31) 128) b))) ((V.tup [(V.ints .u64 30 (fun _ => 0)), (V.bool false)]).den z0 = (V.tup [(V.ints .u64 30 (rDecodeP b).1), (V.bool (rDecodeP b).2)]).den z0) (mB (!(rAcrossO (rFromBytesO (up 31 (remI (b 31) 128) b))).2) ((V.tup [(V.ints .u64 30 (fun _ => 0)), (V.bool false)]).den z0 = (V.tup [(V.ints .u64 30 (rDecodeP b).1), (V.bool (rDecodeP b).2)]).den z0) (mB (decide ((b 31) ≥ 128)) (mB (rIsZeroO (rAcrossO (rFromBytesO (up 31 (remI (b 31) 128) b))).1) ((V.tup [(V.ints .u64 30 (fun _ => 0)), (V.bool false)]).den z0 = (V.tup [(V.ints .u64 30 (rDecodeP b).1), (V.bool (rDecodeP b).2)]).den z0) (mB (decide ((b 31) ≥ 128)) ((V.tup [(V.ints .u64 30 (rAffineO (rNegO (rAcrossO (rFromBytesO (up 31 (remI (b 31) 128) b))).1) (rFromBytesO (up 31 (remI (b 31) 128) b)))), (V.bool true)]).den z0 = (V.tup [(V.ints .u64 30 (rDecodeP b).1), (V.bool (rDecodeP b).2)]).den z0) ((V.tup [(V.ints .u64 30 (rAffineO (rAcrossO (rFromBytesO (up 31 (remI (b 31) 128) b))).1 (rFromBytesO (up 31 (remI (b 31) 128) b)))), (V.bool true)]).den z0 = (V.tup [(V.ints .u64 30 (rDecodeP b).1), (V.bool (rDecodeP b).2)]).den z0))) (mB (decide ((b 31) ≥ 128)) ((V.tup [(V.ints .u64 30 (rAffineO (rNegO (rAcrossO (rFromBytesO (up 31 (remI (b 31) 128) b))).1) (rFromBytesO (up 31 (remI (b 31) 128) b)))), (V.bool true)]).den z0 = (V.tup [(V.ints .u64 30 (rDecodeP b).1), (V.bool (rDecodeP b).2)]).den z0) ((V.tup [(V.ints .u64 30 (rAffineO (rAcrossO (rFromBytesO (up 31 (remI (b 31) 128) b))).1 (rFromBytesO (up 31 (remI (b 31) 128) b)))), (V.bool true)]).den z0 = (V.tup [(V.ints .u64 30 (rDecodeP b).1), (V.bool (rDecodeP b).2)]).den z0))))) := by kernel_rfl
theorem rDecodeP_a (b : (Nat → Int)) : awp Try.prog o57O noG 300 (body Try.f56) (ends Try.prog Try.f56 fun v _ => okV (V.tup [(V.ints .u64 30 (rDecodeP b).1), (V.bool (rDecodeP b).2)]) v) ⟨[(V.ints .u8 32 b)] ++ List.replicate 41 V.un, []⟩ := by
  rw [rDecodeP_t]
  refine mBt (fun h1 => ?_) (fun h1 => ?_)
  · simp only [rDecodeP, h1, cond_true]
  · refine mBt (fun h2 => ?_) (fun h2 => ?_)
    · simp only [rDecodeP, h1, h2, cond_true, cond_false]
    · refine mBt (fun h3 => ?_) (fun h3 => ?_)
      · refine mBt (fun h4 => ?_) (fun h4 => ?_)
        · simp only [rDecodeP, h1, h2, h3, h4, cond_true, cond_false]
        · refine mBt (fun h5 => ?_) (fun h5 => ?_)
          · simp only [rDecodeP, h1, h2, h3, h4, cond_true, cond_false]
          · simp [h3] at h5
      · refine mBt (fun h4 => ?_) (fun h4 => ?_)
        · simp [h3] at h4
        · simp only [rDecodeP, h1, h2, h3, cond_false]
noncomputable def g56 : List V → Option (Bool × V) := fun | [.ints .u8 32 b] => some (true, (V.tup [(V.ints .u64 30 (rDecodeP b).1), (V.bool (rDecodeP b).2)])) | _ => none
theorem rDecodeP_p (b : (Nat → Int)) : (∀ μ μ', V.den μ' (V.tup [(V.ints .u64 30 (rDecodeP b).1), (V.bool (rDecodeP b).2)]) = V.den μ (V.tup [(V.ints .u64 30 (rDecodeP b).1), (V.bool (rDecodeP b).2)])) ∧ ∀ μ w, PureAt Try.prog 56 (([(V.ints .u8 32 b)] : List V).map (V.den μ)).toArray (V.den μ (V.tup [(V.ints .u64 30 (rDecodeP b).1), (V.bool (rDecodeP b).2)])) w :=
  pure_ok (F := o57O) (N := 300) (fn := Try.f56) (args := [(V.ints .u8 32 b)]) (r := (V.tup [(V.ints .u64 30 (rDecodeP b).1), (V.bool (rDecodeP b).2)])) (n := 41) hM o57O_ok (noG_ok _) Try.func56 (by kernel_rfl) (by kernel_rfl) (by kernel_rfl) (by kernel_rfl) (rDecodeP_a b) (by kernel_rfl)
theorem g56_ok (vs : List V) (v : V) (h : g56 vs = some (true, v)) : (∀ μ μ', v.den μ' = v.den μ) ∧ ∀ μ w, PureAt Try.prog 56 (vs.map (V.den μ)).toArray (v.den μ) w := by
  unfold g56 at h
  split at h
  · simp only [Option.some.injEq, Prod.mk.injEq, true_and] at h
    subst h
    exact rDecodeP_p _
  · simp at h
noncomputable def o56 : Orc := ext 56 g56 o57O
theorem o56_ok : OrcOK Try.prog o56 := ext_ok o57O_ok g56_ok

theorem rDecodePO_ex : ∃ f : (Nat → Int) → ((Nat → Int) × Bool), f = rDecodeP := ⟨_, rfl⟩
/-- rDecodeP, by a name that is not unfolded. -/
noncomputable def rDecodePO : (Nat → Int) → ((Nat → Int) × Bool) := Classical.choose rDecodePO_ex
theorem rDecodePO_eq : rDecodePO = rDecodeP := Classical.choose_spec rDecodePO_ex
noncomputable def g56O : List V → Option (Bool × V) := fun | [.ints .u8 32 b] => some (true, (V.tup [(V.ints .u64 30 (rDecodePO b).1), (V.bool (rDecodePO b).2)])) | _ => none
theorem g56O_ok (vs : List V) (v : V) (h : g56O vs = some (true, v)) : (∀ μ μ', v.den μ' = v.den μ) ∧ ∀ μ w, PureAt Try.prog 56 (vs.map (V.den μ)).toArray (v.den μ) w := by
  unfold g56O at h
  split at h
  · simp only [Option.some.injEq, Prod.mk.injEq, true_and] at h
    subst h
    rw [rDecodePO_eq]
    exact rDecodeP_p _
  · simp at h
noncomputable def o56O : Orc := ext 56 g56O o56
theorem o56O_ok : OrcOK Try.prog o56O := ext_ok o56_ok g56O_ok
end Go.Proofs.Ytbnclikjbnfodaa

namespace Go.Proofs.Ytbnclikjbnfodaa
open Go.Ev
/- fareboxlaw07.lives -/
noncomputable def lives : Bool := (cond (onPO basePO) (cond (!(equalPO basePO zeroPO)) (cond (!(equalPO basePO (negPO basePO))) (!(onPO (fun _ => 0))) false) false) false)
theorem lives_t : awp Try.prog o56O noG 300 (body Try.f61) (ends Try.prog Try.f61 fun v _ => okV (V.bool lives) v) ⟨[] ++ List.replicate 23 V.un, []⟩ = (mB (onPO basePO) (mB (!(equalPO basePO zeroPO)) (mB (!(equalPO basePO (negPO basePO))) ((V.bool (!(onPO (fun _ => 0)))).den z0 = (V.bool lives).den z0) ((V.bool false).den z0 = (V.bool lives).den z0)) ((V.bool false).den z0 = (V.bool lives).den z0)) ((V.bool false).den z0 = (V.bool lives).den z0)) := by kernel_rfl
theorem lives_a : awp Try.prog o56O noG 300 (body Try.f61) (ends Try.prog Try.f61 fun v _ => okV (V.bool lives) v) ⟨[] ++ List.replicate 23 V.un, []⟩ := by
  rw [lives_t]
  refine mBt (fun h1 => ?_) (fun h1 => ?_)
  · refine mBt (fun h2 => ?_) (fun h2 => ?_)
    · refine mBt (fun h3 => ?_) (fun h3 => ?_)
      · simp only [lives, h1, h2, h3, cond_true]
      · simp only [lives, h1, h2, h3, cond_true, cond_false]
    · simp only [lives, h1, h2, cond_true, cond_false]
  · simp only [lives, h1, cond_false]
noncomputable def g61 : List V → Option (Bool × V) := fun | [] => some (true, (V.bool lives)) | _ => none
theorem lives_p : (∀ μ μ', V.den μ' (V.bool lives) = V.den μ (V.bool lives)) ∧ ∀ μ w, PureAt Try.prog 61 (([] : List V).map (V.den μ)).toArray (V.den μ (V.bool lives)) w :=
  pure_ok (F := o56O) (N := 300) (fn := Try.f61) (args := []) (r := (V.bool lives)) (n := 23) hM o56O_ok (noG_ok _) Try.func61 (by kernel_rfl) (by kernel_rfl) (by kernel_rfl) (by kernel_rfl) (lives_a) (by kernel_rfl)
theorem g61_ok (vs : List V) (v : V) (h : g61 vs = some (true, v)) : (∀ μ μ', v.den μ' = v.den μ) ∧ ∀ μ w, PureAt Try.prog 61 (vs.map (V.den μ)).toArray (v.den μ) w := by
  unfold g61 at h
  split at h
  · simp only [Option.some.injEq, Prod.mk.injEq, true_and] at h
    subst h
    exact lives_p
  · simp at h
noncomputable def o61 : Orc := ext 61 g61 o56O
theorem o61_ok : OrcOK Try.prog o61 := ext_ok o56O_ok g61_ok

theorem livesO_ex : ∃ f : Bool, f = lives := ⟨_, rfl⟩
/-- lives, by a name that is not unfolded. -/
noncomputable def livesO : Bool := Classical.choose livesO_ex
theorem livesO_eq : livesO = lives := Classical.choose_spec livesO_ex
noncomputable def g61O : List V → Option (Bool × V) := fun | [] => some (true, (V.bool livesO)) | _ => none
theorem g61O_ok (vs : List V) (v : V) (h : g61O vs = some (true, v)) : (∀ μ μ', v.den μ' = v.den μ) ∧ ∀ μ w, PureAt Try.prog 61 (vs.map (V.den μ)).toArray (v.den μ) w := by
  unfold g61O at h
  split at h
  · simp only [Option.some.injEq, Prod.mk.injEq, true_and] at h
    subst h
    rw [livesO_eq]
    exact lives_p
  · simp at h
noncomputable def o61O : Orc := ext 61 g61O o61
theorem o61O_ok : OrcOK Try.prog o61O := ext_ok o61_ok g61O_ok

/- fareboxlaw07.point -/
noncomputable def pointP (b : (Nat → Int)) : (Nat → Int) := (cond (!(decodePO b).2) basePO (decodePO b).1)
theorem pointP_t (b : (Nat → Int)) : awp Try.prog o61O noG 300 (body Try.f68) (ends Try.prog Try.f68 fun v _ => okV (V.ints .u64 20 (pointP b)) v) ⟨[(V.ints .u8 32 b)] ++ List.replicate 13 V.un, []⟩ = (mB (!(decodePO b).2) ((V.ints .u64 20 basePO).den z0 = (V.ints .u64 20 (pointP b)).den z0) ((V.ints .u64 20 (decodePO b).1).den z0 = (V.ints .u64 20 (pointP b)).den z0)) := by kernel_rfl
theorem pointP_a (b : (Nat → Int)) : awp Try.prog o61O noG 300 (body Try.f68) (ends Try.prog Try.f68 fun v _ => okV (V.ints .u64 20 (pointP b)) v) ⟨[(V.ints .u8 32 b)] ++ List.replicate 13 V.un, []⟩ := by
  rw [pointP_t]
  refine mBt (fun h1 => ?_) (fun h1 => ?_)
  · simp only [pointP, h1, cond_true]
  · simp only [pointP, h1, cond_false]
noncomputable def g68 : List V → Option (Bool × V) := fun | [.ints .u8 32 b] => some (true, (V.ints .u64 20 (pointP b))) | _ => none
theorem pointP_p (b : (Nat → Int)) : (∀ μ μ', V.den μ' (V.ints .u64 20 (pointP b)) = V.den μ (V.ints .u64 20 (pointP b))) ∧ ∀ μ w, PureAt Try.prog 68 (([(V.ints .u8 32 b)] : List V).map (V.den μ)).toArray (V.den μ (V.ints .u64 20 (pointP b))) w :=
  pure_ok (F := o61O) (N := 300) (fn := Try.f68) (args := [(V.ints .u8 32 b)]) (r := (V.ints .u64 20 (pointP b))) (n := 13) hM o61O_ok (noG_ok _) Try.func68 (by kernel_rfl) (by kernel_rfl) (by kernel_rfl) (by kernel_rfl) (pointP_a b) (by kernel_rfl)
theorem g68_ok (vs : List V) (v : V) (h : g68 vs = some (true, v)) : (∀ μ μ', v.den μ' = v.den μ) ∧ ∀ μ w, PureAt Try.prog 68 (vs.map (V.den μ)).toArray (v.den μ) w := by
  unfold g68 at h
  split at h
  · simp only [Option.some.injEq, Prod.mk.injEq, true_and] at h
    subst h
    exact pointP_p _
  · simp at h
noncomputable def o68 : Orc := ext 68 g68 o61O
theorem o68_ok : OrcOK Try.prog o68 := ext_ok o61O_ok g68_ok

theorem pointPO_ex : ∃ f : (Nat → Int) → (Nat → Int), f = pointP := ⟨_, rfl⟩
/-- pointP, by a name that is not unfolded. -/
noncomputable def pointPO : (Nat → Int) → (Nat → Int) := Classical.choose pointPO_ex
theorem pointPO_eq : pointPO = pointP := Classical.choose_spec pointPO_ex
noncomputable def g68O : List V → Option (Bool × V) := fun | [.ints .u8 32 b] => some (true, (V.ints .u64 20 (pointPO b))) | _ => none
theorem g68O_ok (vs : List V) (v : V) (h : g68O vs = some (true, v)) : (∀ μ μ', v.den μ' = v.den μ) ∧ ∀ μ w, PureAt Try.prog 68 (vs.map (V.den μ)).toArray (v.den μ) w := by
  unfold g68O at h
  split at h
  · simp only [Option.some.injEq, Prod.mk.injEq, true_and] at h
    subst h
    rw [pointPO_eq]
    exact pointP_p _
  · simp at h
noncomputable def o68O : Orc := ext 68 g68O o68
theorem o68O_ok : OrcOK Try.prog o68O := ext_ok o68_ok g68O_ok

/- fareboxlaw07.number -/
noncomputable def number2 : (Nat → Int) := (mulFO (negFO (smallFO 121665)) (invertFO (smallFO 121666)))
theorem number2_t : awp Try.prog o68O noG 300 (body Try.f72) (ends Try.prog Try.f72 fun v _ => okV (V.ints .u64 5 number2) v) ⟨[] ++ List.replicate 6 V.un, []⟩ = ((V.ints .u64 5 number2).den z0 = (V.ints .u64 5 number2).den z0) := by kernel_rfl
theorem number2_a : awp Try.prog o68O noG 300 (body Try.f72) (ends Try.prog Try.f72 fun v _ => okV (V.ints .u64 5 number2) v) ⟨[] ++ List.replicate 6 V.un, []⟩ := by rw [number2_t]
noncomputable def g72 : List V → Option (Bool × V) := fun | [] => some (true, (V.ints .u64 5 number2)) | _ => none
theorem number2_p : (∀ μ μ', V.den μ' (V.ints .u64 5 number2) = V.den μ (V.ints .u64 5 number2)) ∧ ∀ μ w, PureAt Try.prog 72 (([] : List V).map (V.den μ)).toArray (V.den μ (V.ints .u64 5 number2)) w :=
  pure_ok (F := o68O) (N := 300) (fn := Try.f72) (args := []) (r := (V.ints .u64 5 number2)) (n := 6) hM o68O_ok (noG_ok _) Try.func72 (by kernel_rfl) (by kernel_rfl) (by kernel_rfl) (by kernel_rfl) (number2_a) (by kernel_rfl)
theorem g72_ok (vs : List V) (v : V) (h : g72 vs = some (true, v)) : (∀ μ μ', v.den μ' = v.den μ) ∧ ∀ μ w, PureAt Try.prog 72 (vs.map (V.den μ)).toArray (v.den μ) w := by
  unfold g72 at h
  split at h
  · simp only [Option.some.injEq, Prod.mk.injEq, true_and] at h
    subst h
    exact number2_p
  · simp at h
noncomputable def o72 : Orc := ext 72 g72 o68O
theorem o72_ok : OrcOK Try.prog o72 := ext_ok o68O_ok g72_ok

theorem number2O_ex : ∃ f : (Nat → Int), f = number2 := ⟨_, rfl⟩
/-- number2, by a name that is not unfolded. -/
noncomputable def number2O : (Nat → Int) := Classical.choose number2O_ex
theorem number2O_eq : number2O = number2 := Classical.choose_spec number2O_ex
noncomputable def g72O : List V → Option (Bool × V) := fun | [] => some (true, (V.ints .u64 5 number2O)) | _ => none
theorem g72O_ok (vs : List V) (v : V) (h : g72O vs = some (true, v)) : (∀ μ μ', v.den μ' = v.den μ) ∧ ∀ μ w, PureAt Try.prog 72 (vs.map (V.den μ)).toArray (v.den μ) w := by
  unfold g72O at h
  split at h
  · simp only [Option.some.injEq, Prod.mk.injEq, true_and] at h
    subst h
    rw [number2O_eq]
    exact number2_p
  · simp at h
noncomputable def o72O : Orc := ext 72 g72O o72
theorem o72O_ok : OrcOK Try.prog o72O := ext_ok o72_ok g72O_ok

/- fareboxlaw07.flat -/
noncomputable def flatP (q : (Nat → Int)) : ((Nat → Int) × (Nat → Int)) := ((mulFO (sh 0 q) (invertFO (sh 10 q))), (mulFO (sh 5 q) (invertFO (sh 10 q))))
theorem flatP_t (q : (Nat → Int)) : awp Try.prog o72O noG 300 (body Try.f60) (ends Try.prog Try.f60 fun v _ => okV (V.tup [(V.ints .u64 5 (flatP q).1), (V.ints .u64 5 (flatP q).2)]) v) ⟨[(V.ints .u64 20 q)] ++ List.replicate 15 V.un, []⟩ = ((V.tup [(V.ints .u64 5 (flatP q).1), (V.ints .u64 5 (flatP q).2)]).den z0 = (V.tup [(V.ints .u64 5 (flatP q).1), (V.ints .u64 5 (flatP q).2)]).den z0) := by kernel_rfl
theorem flatP_a (q : (Nat → Int)) : awp Try.prog o72O noG 300 (body Try.f60) (ends Try.prog Try.f60 fun v _ => okV (V.tup [(V.ints .u64 5 (flatP q).1), (V.ints .u64 5 (flatP q).2)]) v) ⟨[(V.ints .u64 20 q)] ++ List.replicate 15 V.un, []⟩ := by rw [flatP_t]
noncomputable def g60 : List V → Option (Bool × V) := fun | [.ints .u64 20 q] => some (true, (V.tup [(V.ints .u64 5 (flatP q).1), (V.ints .u64 5 (flatP q).2)])) | _ => none
theorem flatP_p (q : (Nat → Int)) : (∀ μ μ', V.den μ' (V.tup [(V.ints .u64 5 (flatP q).1), (V.ints .u64 5 (flatP q).2)]) = V.den μ (V.tup [(V.ints .u64 5 (flatP q).1), (V.ints .u64 5 (flatP q).2)])) ∧ ∀ μ w, PureAt Try.prog 60 (([(V.ints .u64 20 q)] : List V).map (V.den μ)).toArray (V.den μ (V.tup [(V.ints .u64 5 (flatP q).1), (V.ints .u64 5 (flatP q).2)])) w :=
  pure_ok (F := o72O) (N := 300) (fn := Try.f60) (args := [(V.ints .u64 20 q)]) (r := (V.tup [(V.ints .u64 5 (flatP q).1), (V.ints .u64 5 (flatP q).2)])) (n := 15) hM o72O_ok (noG_ok _) Try.func60 (by kernel_rfl) (by kernel_rfl) (by kernel_rfl) (by kernel_rfl) (flatP_a q) (by kernel_rfl)
theorem g60_ok (vs : List V) (v : V) (h : g60 vs = some (true, v)) : (∀ μ μ', v.den μ' = v.den μ) ∧ ∀ μ w, PureAt Try.prog 60 (vs.map (V.den μ)).toArray (v.den μ) w := by
  unfold g60 at h
  split at h
  · simp only [Option.some.injEq, Prod.mk.injEq, true_and] at h
    subst h
    exact flatP_p _
  · simp at h
noncomputable def o60 : Orc := ext 60 g60 o72O
theorem o60_ok : OrcOK Try.prog o60 := ext_ok o72O_ok g60_ok

theorem flatPO_ex : ∃ f : (Nat → Int) → ((Nat → Int) × (Nat → Int)), f = flatP := ⟨_, rfl⟩
/-- flatP, by a name that is not unfolded. -/
noncomputable def flatPO : (Nat → Int) → ((Nat → Int) × (Nat → Int)) := Classical.choose flatPO_ex
theorem flatPO_eq : flatPO = flatP := Classical.choose_spec flatPO_ex
noncomputable def g60O : List V → Option (Bool × V) := fun | [.ints .u64 20 q] => some (true, (V.tup [(V.ints .u64 5 (flatPO q).1), (V.ints .u64 5 (flatPO q).2)])) | _ => none
theorem g60O_ok (vs : List V) (v : V) (h : g60O vs = some (true, v)) : (∀ μ μ', v.den μ' = v.den μ) ∧ ∀ μ w, PureAt Try.prog 60 (vs.map (V.den μ)).toArray (v.den μ) w := by
  unfold g60O at h
  split at h
  · simp only [Option.some.injEq, Prod.mk.injEq, true_and] at h
    subst h
    rw [flatPO_eq]
    exact flatP_p _
  · simp at h
noncomputable def o60O : Orc := ext 60 g60O o60
theorem o60O_ok : OrcOK Try.prog o60O := ext_ok o60_ok g60O_ok

/- fareboxlaw07.onLaw -/
noncomputable def onLawP (q : (Nat → Int)) : Bool := (cond (!(isZeroFO (sh 10 q))) (cond (equalFO (subFO (squareFO (flatPO q).2) (squareFO (flatPO q).1)) (addFO (smallFO 1) (mulFO number2O (mulFO (squareFO (flatPO q).1) (squareFO (flatPO q).2))))) (equalFO (mulFO (sh 15 q) (invertFO (sh 10 q))) (mulFO (flatPO q).1 (flatPO q).2)) false) false)
theorem onLawP_t (q : (Nat → Int)) : awp Try.prog o60O noG 300 (body Try.f71) (ends Try.prog Try.f71 fun v _ => okV (V.bool (onLawP q)) v) ⟨[(V.ints .u64 20 q)] ++ List.replicate 48 V.un, []⟩ = (mB (!(isZeroFO (sh 10 q))) (mB (equalFO (subFO (squareFO (flatPO q).2) (squareFO (flatPO q).1)) (addFO (smallFO 1) (mulFO number2O (mulFO (squareFO (flatPO q).1) (squareFO (flatPO q).2))))) ((V.bool (equalFO (mulFO (sh 15 q) (invertFO (sh 10 q))) (mulFO (flatPO q).1 (flatPO q).2))).den z0 = (V.bool (onLawP q)).den z0) ((V.bool false).den z0 = (V.bool (onLawP q)).den z0)) ((V.bool false).den z0 = (V.bool (onLawP q)).den z0)) := by kernel_rfl
theorem onLawP_a (q : (Nat → Int)) : awp Try.prog o60O noG 300 (body Try.f71) (ends Try.prog Try.f71 fun v _ => okV (V.bool (onLawP q)) v) ⟨[(V.ints .u64 20 q)] ++ List.replicate 48 V.un, []⟩ := by
  rw [onLawP_t]
  refine mBt (fun h1 => ?_) (fun h1 => ?_)
  · refine mBt (fun h2 => ?_) (fun h2 => ?_)
    · simp only [onLawP, h1, h2, cond_true]
    · simp only [onLawP, h1, h2, cond_true, cond_false]
  · simp only [onLawP, h1, cond_false]
noncomputable def g71 : List V → Option (Bool × V) := fun | [.ints .u64 20 q] => some (true, (V.bool (onLawP q))) | _ => none
theorem onLawP_p (q : (Nat → Int)) : (∀ μ μ', V.den μ' (V.bool (onLawP q)) = V.den μ (V.bool (onLawP q))) ∧ ∀ μ w, PureAt Try.prog 71 (([(V.ints .u64 20 q)] : List V).map (V.den μ)).toArray (V.den μ (V.bool (onLawP q))) w :=
  pure_ok (F := o60O) (N := 300) (fn := Try.f71) (args := [(V.ints .u64 20 q)]) (r := (V.bool (onLawP q))) (n := 48) hM o60O_ok (noG_ok _) Try.func71 (by kernel_rfl) (by kernel_rfl) (by kernel_rfl) (by kernel_rfl) (onLawP_a q) (by kernel_rfl)
theorem g71_ok (vs : List V) (v : V) (h : g71 vs = some (true, v)) : (∀ μ μ', v.den μ' = v.den μ) ∧ ∀ μ w, PureAt Try.prog 71 (vs.map (V.den μ)).toArray (v.den μ) w := by
  unfold g71 at h
  split at h
  · simp only [Option.some.injEq, Prod.mk.injEq, true_and] at h
    subst h
    exact onLawP_p _
  · simp at h
noncomputable def o71 : Orc := ext 71 g71 o60O
theorem o71_ok : OrcOK Try.prog o71 := ext_ok o60O_ok g71_ok

theorem onLawPO_ex : ∃ f : (Nat → Int) → Bool, f = onLawP := ⟨_, rfl⟩
/-- onLawP, by a name that is not unfolded. -/
noncomputable def onLawPO : (Nat → Int) → Bool := Classical.choose onLawPO_ex
theorem onLawPO_eq : onLawPO = onLawP := Classical.choose_spec onLawPO_ex
noncomputable def g71O : List V → Option (Bool × V) := fun | [.ints .u64 20 q] => some (true, (V.bool (onLawPO q))) | _ => none
theorem g71O_ok (vs : List V) (v : V) (h : g71O vs = some (true, v)) : (∀ μ μ', v.den μ' = v.den μ) ∧ ∀ μ w, PureAt Try.prog 71 (vs.map (V.den μ)).toArray (v.den μ) w := by
  unfold g71O at h
  split at h
  · simp only [Option.some.injEq, Prod.mk.injEq, true_and] at h
    subst h
    rw [onLawPO_eq]
    exact onLawP_p _
  · simp at h
noncomputable def o71O : Orc := ext 71 g71O o71
theorem o71O_ok : OrcOK Try.prog o71O := ext_ok o71_ok g71O_ok
end Go.Proofs.Ytbnclikjbnfodaa

/-
  FieldBytes answers true, of any bytes, limbs and small number. Conditions: none.
-/
namespace Go.Proofs.Ytbnclikjbnfodaa
open Go.Ev Go.Num

theorem bytes_is {x a : Nat → Int} (hx : U5 x) (ha : D10 a) (h : v5 x % p = v10 a) : eqN 32 (bytesF x) (rBytes a) = true := by
  rw [eqN_iff]
  intro j hj
  rw [bytes_v hx j hj, rBytes_v ha j hj, h]

theorem bytes_true {b x : Nat → Int} {n : Int} (hb : B32 b) (hx : U5 x) (hn : 0 ≤ n ∧ n < 18446744073709551616) : lawBytes b x n = true := by
  obtain ⟨f1, f2⟩ := fromBytes_v hb
  obtain ⟨r1, r2⟩ := rFromBytes_v hb
  obtain ⟨a1, a2⟩ := of_r hx
  obtain ⟨s1, s2⟩ := small_v hn.1 hn.2
  obtain ⟨t1, t2⟩ := small_r hn.1 hn.2
  have e1 := is_of f2 r2 (by rw [f1, r1])
  have e2 : canonicalF b = rCanonical b := by
    unfold canonicalF rCanonical
    have h := bytes_is f2.u r2 (by rw [f1, r1]; exact Int.emod_emod_of_dvd _ (Int.dvd_refl _))
    rw [eqN_iff] at h
    rw [Bool.eq_iff_iff, eqN_iff, eqN_iff]
    exact ⟨fun g j hj => by rw [← h j hj]; exact g j hj, fun g j hj => by rw [h j hj]; exact g j hj⟩
  have e3 := bytes_is hx a2 a1.symm
  have e4 := is_of s2 t2 (by rw [s1, t1])
  unfold lawBytes
  rw [e1, e2, e3, e4]
  simp

end Go.Proofs.Ytbnclikjbnfodaa
