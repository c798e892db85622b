/-
  Callees that are handed slices: what they read, what they make. Conditions: none.
-/
import Derived.Test.YtnoehjibponofaaDoorEvI
namespace Go.Ev
open RowKit (Below)

/-- The callee's own naming of what it is handed: each slice is a window of its own, from block k on. -/
def view : List V → List V → Nat → Option (List V × List V)
  | [], _, _ => some ([], [])
  | v :: vs, m, k => match v with
    | .sl id off len cap => match m[id]? with
      | some c => match strip c with
        | .ints kd N f => match Nat.ble off N with
          | true => match view vs m (k + 1) with
            | some (as, ro) => some (.sl k 0 len cap :: as, .tup [.ints kd (N - off) (sh off f)] :: ro)
            | none => none
          | false => none
        | .bools N f => match Nat.ble off N with
          | true => match view vs m (k + 1) with
            | some (as, ro) => some (.sl k 0 len cap :: as, .tup [.bools (N - off) (sh off f)] :: ro)
            | none => none
          | false => none
        | _ => none
      | none => none
    | v => match v.flat with
      | true => match view vs m k with
        | some (as, ro) => some (v :: as, ro)
        | none => none
      | false => none

theorem view_grow : ∀ {vs m : List V} {k : Nat} {z : V} {r : List V × List V}, view vs m k = some r → view vs (m ++ [z]) k = some r
  | [], _, _, _, _, h => h
  | v :: vs, m, k, z, r, h => by
    have tail : ∀ {k : Nat} {r : List V × List V}, view vs m k = some r → view vs (m ++ [z]) k = some r := fun h => view_grow h
    unfold view at h ⊢
    split at h
    · rename_i id off len cap
      split at h
      · rename_i c hc
        have hlt := (List.getElem?_eq_some_iff.1 hc).1
        rw [List.getElem?_append, if_pos hlt, hc]
        dsimp only
        split at h
        · rename_i kd N f hs
          try rw [hs]
          try dsimp only
          split at h
          · rename_i hb
            try rw [hb]
            try dsimp only
            split at h
            · rename_i as ro ht
              rw [tail ht]; exact h
            · cases h
          · cases h
        · rename_i N f hs
          try rw [hs]
          try dsimp only
          split at h
          · rename_i hb
            try rw [hb]
            try dsimp only
            split at h
            · rename_i as ro ht
              rw [tail ht]; exact h
            · cases h
          · cases h
        · cases h
      · cases h
    · split at h
      · rename_i hb
        try rw [hb]
        try dsimp only
        split at h
        · rename_i as ro ht
          rw [tail ht]; exact h
        · cases h
      · cases h

/-- A window in a block that is held. -/
theorem window {μ : Mu} {B : Nat} {w : World} {id off : Nat} {c u : V} (h : Held μ B w id c) (hu : ∀ j x, (u.den μ).cells[j]? = some x → ((strip c).den μ).cells[off + j]? = some x) {ν : Mu} {k : Nat} (hν : ν k = ((μ id).1, (μ id).2 + off)) (hflat : u.den ν = u.den μ) :
    Held ν w.heap.size w k (.tup [u]) := by
  unfold Held
  show (ν k).1 < w.heap.size ∧ (ν k).1 < w.heap.size ∧ _
  rw [hν]
  refine ⟨h.lt, h.lt, fun g hg => by cases u <;> simp [tagOf] at hg, fun j x hx => ?_⟩
  rw [hflat] at hx
  have := h.cell (hu j x hx)
  rw [Nat.add_assoc]
  exact this

theorem view_rel {μ : Mu} {B : Nat} {w0 w : World} {m : List V} (hr : Rel μ B w0 m w) : ∀ {vs as ro : List V} {k : Nat}, view vs m k = some (as, ro) →
    ∃ L : List (Nat × Nat), L.length = ro.length ∧ ∀ ν : Mu, (∀ j x, L[j]? = some x → ν (k + j) = x) →
      (∀ j v, ro[j]? = some v → Held ν w.heap.size w (k + j) v) ∧ as.map (V.den ν) = vs.map (V.den μ)
  | [], as, ro, k, h => by
    simp only [view, Option.some.injEq, Prod.mk.injEq] at h
    obtain ⟨rfl, rfl⟩ := h
    exact ⟨[], rfl, fun ν _ => ⟨fun j v hv => by simp at hv, rfl⟩⟩
  | v :: vs, as, ro, k, h => by
    have slice : ∀ {id off len cap : Nat} {c u : V} {as' ro' : List V}, v = .sl id off len cap → m[id]? = some c → (∀ j x, (u.den μ).cells[j]? = some x → ((strip c).den μ).cells[off + j]? = some x) → (∀ ν : Mu, u.den ν = u.den μ) →
        view vs m (k + 1) = some (as', ro') → as = .sl k 0 len cap :: as' → ro = .tup [u] :: ro' →
        ∃ L : List (Nat × Nat), L.length = ro.length ∧ ∀ ν : Mu, (∀ j x, L[j]? = some x → ν (k + j) = x) →
          (∀ j v, ro[j]? = some v → Held ν w.heap.size w (k + j) v) ∧ as.map (V.den ν) = (v :: vs).map (V.den μ) := by
      intro id off len cap c u as' ro' hv hc hu hfl ht ha hro
      obtain ⟨L, hL, hk⟩ := view_rel hr ht
      subst hv ha hro
      refine ⟨((μ id).1, (μ id).2 + off) :: L, by simp [hL], fun ν hν => ?_⟩
      have h0 : ν k = ((μ id).1, (μ id).2 + off) := hν 0 _ rfl
      obtain ⟨h1, h2⟩ := hk ν (fun j x hx => by
        have := hν (j + 1) x (by simpa using hx)
        rwa [show k + (j + 1) = k + 1 + j by omega] at this)
      refine ⟨fun j x hx => ?_, ?_⟩
      · cases j with
        | zero =>
          simp only [List.getElem?_cons_zero, Option.some.injEq] at hx
          subst hx
          exact window (hr.hold id c hc) hu h0 (hfl ν)
        | succ j =>
          have := h1 j x (by simpa using hx)
          rwa [show k + 1 + j = k + (j + 1) by omega] at this
      · simp only [List.map_cons, h2, V.den, h0, Nat.add_zero]
    unfold view at h
    split at h
    · rename_i id off len cap
      split at h
      · rename_i c hc
        split at h
        · rename_i kd N f hs
          split at h
          · rename_i hb
            have hb := bleT.1 hb
            split at h
            · rename_i as' ro' ht
              simp only [Option.some.injEq, Prod.mk.injEq] at h
              refine slice (u := .ints kd (N - off) (sh off f)) rfl hc (fun j x hx => ?_) (fun ν => by simp [V.den]) ht h.1.symm h.2.symm
              rw [hs]
              rw [cells_ints] at hx ⊢
              simp only [List.getElem?_toArray, List.getElem?_map, Option.map_eq_some_iff] at hx ⊢
              obtain ⟨i, hi, rfl⟩ := hx
              obtain ⟨h1, h2⟩ := List.getElem?_eq_some_iff.1 hi
              simp at h1 h2
              subst h2
              exact ⟨off + j, by rw [List.getElem?_range (by omega)], by rw [sh_at]⟩
            · cases h
          · cases h
        · rename_i N f hs
          split at h
          · rename_i hb
            have hb := bleT.1 hb
            split at h
            · rename_i as' ro' ht
              simp only [Option.some.injEq, Prod.mk.injEq] at h
              refine slice (u := .bools (N - off) (sh off f)) rfl hc (fun j x hx => ?_) (fun ν => by simp [V.den]) ht h.1.symm h.2.symm
              rw [hs]
              rw [cells_bools] at hx ⊢
              simp only [List.getElem?_toArray, List.getElem?_map, Option.map_eq_some_iff] at hx ⊢
              obtain ⟨i, hi, rfl⟩ := hx
              obtain ⟨h1, h2⟩ := List.getElem?_eq_some_iff.1 hi
              simp at h1 h2
              subst h2
              exact ⟨off + j, by rw [List.getElem?_range (by omega)], by rw [sh_at]⟩
            · cases h
          · cases h
        · cases h
      · cases h
    · rename_i hno
      split at h
      · rename_i hfl
        split at h
        · rename_i as' ro' ht
          simp only [Option.some.injEq, Prod.mk.injEq] at h
          obtain ⟨rfl, rfl⟩ := h
          obtain ⟨L, hL, hk⟩ := view_rel hr ht
          refine ⟨L, hL, fun ν hν => ?_⟩
          obtain ⟨h1, h2⟩ := hk ν hν
          exact ⟨h1, by simp only [List.map_cons, h2, flat_den hfl μ ν]⟩
        · cases h
      · cases h

/-- The package variables that a callee looks at. -/
def glob : List Nat → List V → Option (List V)
  | [], _ => some []
  | g :: gs, m => match findG g m 0 with
    | some id => match m[id]? with
      | some c => match (strip c).flat with
        | true => match glob gs m with
          | some l => some (c :: l)
          | none => none
        | false => none
      | none => none
    | none => none
theorem glob_grow : ∀ {gs : List Nat} {m : List V} {z : V} {r : List V}, glob gs m = some r → glob gs (m ++ [z]) = some r
  | [], _, _, _, h => h
  | g :: gs, m, z, r, h => by
    have tail : ∀ {r : List V}, glob gs m = some r → glob gs (m ++ [z]) = some r := fun h => glob_grow h
    unfold glob at h ⊢
    cases hf : findG g m 0 with
    | none => rw [hf] at h; cases h
    | some id =>
      rw [hf] at h
      rw [findG_grow hf]
      dsimp only at h ⊢
      cases hm : m[id]? with
      | none => rw [hm] at h; cases h
      | some c =>
        have hlt := (List.getElem?_eq_some_iff.1 hm).1
        rw [hm] at h
        rw [List.getElem?_append, if_pos hlt, hm]
        dsimp only at h ⊢
        cases hb : (strip c).flat with
        | false => rw [hb] at h; cases h
        | true =>
          rw [hb] at h
          dsimp only at h ⊢
          cases ht : glob gs m with
          | none => rw [ht] at h; cases h
          | some l => rw [ht] at h; rw [tail ht]; exact h
theorem glob_rel {μ : Mu} {B : Nat} {w0 w : World} {m : List V} (hr : Rel μ B w0 m w) : ∀ {gs : List Nat} {gl : List V} {k : Nat}, glob gs m = some gl →
    gl.length = gs.length ∧ (∀ v ∈ gl, ∃ u, roOf v = some u) ∧ ∀ ν : Mu, (∀ (j g : Nat), gs[j]? = some g → ν (k + j) = (g, 0)) → ∀ j v, gl[j]? = some v → Held ν w.heap.size w (k + j) v
  | [], gl, k, h => by
    simp only [glob, Option.some.injEq] at h
    subst h
    exact ⟨rfl, fun v hv => by simp at hv, fun ν _ j v hv => by simp at hv⟩
  | g :: gs, gl, k, h => by
    unfold glob at h
    cases hf : findG g m 0 with
    | none => rw [hf] at h; cases h
    | some id =>
      rw [hf] at h
      dsimp only at h
      cases hm : m[id]? with
      | none => rw [hm] at h; cases h
      | some c =>
        rw [hm] at h
        dsimp only at h
        cases hb : (strip c).flat with
        | false => rw [hb] at h; cases h
        | true =>
          rw [hb] at h
          dsimp only at h
          cases ht : glob gs m with
          | none => rw [ht] at h; cases h
          | some l =>
            rw [ht] at h
            simp only [Option.some.injEq] at h
            subst h
            obtain ⟨v', _, h2, h3⟩ := findG_spec hf
            rw [Nat.sub_zero, hm] at h2
            simp only [Option.some.injEq] at h2
            subst h2
            obtain ⟨u, hu⟩ := tag_ro h3
            have hμ := hr.global hf
            have hh := hr.hold id c hm
            obtain ⟨l1, l2, l3⟩ := glob_rel hr (k := k + 1) ht
            refine ⟨by simp [l1], fun v hv => ?_, fun ν hν j v hv => ?_⟩
            · rcases List.mem_cons.1 hv with rfl | hv
              · exact ⟨u, hu⟩
              · exact l2 v hv
            · cases j with
              | zero =>
                simp only [List.getElem?_cons_zero, Option.some.injEq] at hv
                subst hv
                have h0 : ν k = (g, 0) := hν 0 g rfl
                have hlt := hh.lt
                unfold Held at hh ⊢
                unfold strip at hb
                rw [hu] at hh hb ⊢
                dsimp only at hh hb ⊢
                rw [Nat.add_zero, h0]
                rw [hμ] at hh hlt
                refine ⟨hlt, hlt, fun g' hg' => ?_, fun j x hx => ?_⟩
                · rw [h3] at hg'; cases hg'; rfl
                · rw [flat_den hb μ ν] at hx
                  exact hh.2.2.2 j x hx
              | succ j =>
                have := l3 ν (fun j' g' hg' => by
                  have := hν (j' + 1) g' (by simpa using hg')
                  rwa [show k + (j' + 1) = k + 1 + j' by omega] at this) j v (by simpa using hv)
                rwa [show k + 1 + j = k + (j + 1) by omega] at this

/-- What a callee is handed: the package variables gs, then the slices. -/
def views (gs : List Nat) (vs m : List V) : Option (List V × List V) :=
  match glob gs m with
  | some gl => match view vs m gs.length with
    | some (as, ro) => some (as, gl ++ ro)
    | none => none
  | none => none
theorem views_grow {gs : List Nat} {vs m : List V} {z : V} {r : List V × List V} (h : views gs vs m = some r) : views gs vs (m ++ [z]) = some r := by
  unfold views at h ⊢
  cases hg : glob gs m with
  | none => rw [hg] at h; cases h
  | some gl =>
    rw [hg] at h
    rw [glob_grow hg]
    dsimp only at h ⊢
    cases hv : view vs m gs.length with
    | none => rw [hv] at h; cases h
    | some p => rw [hv] at h; rw [view_grow hv]; exact h

theorem view_mem {gs : List Nat} {μ : Mu} {B : Nat} {w0 w : World} {m vs as ro : List V} (hr : Rel μ B w0 m w) (h : views gs vs m = some (as, ro)) :
    ∃ ν, RelM ⟨w.heap.size, w, 0, ν⟩ ν ro w ∧ ∀ ν', Agree ro.length ν ν' → (vs.map (V.den μ)).toArray = (as.map (V.den ν')).toArray := by
  unfold views at h
  split at h
  · rename_i gl hg
    split at h
    · rename_i as' ro' hv
      simp only [Option.some.injEq, Prod.mk.injEq] at h
      obtain ⟨rfl, rfl⟩ := h
      obtain ⟨L, hL, hk⟩ := view_rel hr hv
      obtain ⟨g1, g2, g3⟩ := glob_rel hr (k := 0) hg
      have hlen : (gl ++ ro').length = gs.length + L.length := by simp [g1, hL]
      have look : ∀ ν' : Mu, (∀ j, j < (gl ++ ro').length → ν' j = (gs.map (fun g => (g, 0)) ++ L).getD j (0, 0)) →
          (∀ j v, (gl ++ ro')[j]? = some v → Held ν' w.heap.size w j v) ∧ as'.map (V.den ν') = vs.map (V.den μ) := by
        intro ν' hν
        have e1 : ∀ (j g : Nat), gs[j]? = some g → ν' (0 + j) = (g, 0) := by
          intro j g hj
          have hjl := (List.getElem?_eq_some_iff.1 hj).1
          rw [Nat.zero_add, hν j (by rw [hlen]; omega), List.getD_eq_getElem?_getD, List.getElem?_append_left (by simpa using hjl), List.getElem?_map, hj]
          rfl
        have e2 : ∀ j x, L[j]? = some x → ν' (gs.length + j) = x := by
          intro j x hj
          have hjl := (List.getElem?_eq_some_iff.1 hj).1
          rw [hν _ (by rw [hlen]; omega), List.getD_eq_getElem?_getD, List.getElem?_append_right (by simp)]
          simp [hj]
        obtain ⟨h1, h2⟩ := hk ν' e2
        refine ⟨fun j v hv => ?_, h2⟩
        rw [List.getElem?_append] at hv
        split at hv
        · have := g3 ν' e1 j v hv
          rwa [Nat.zero_add] at this
        · rename_i hj
          have := h1 (j - gl.length) v hv
          rwa [show gs.length + (j - gl.length) = j by omega] at this
      refine ⟨fun j => (gs.map (fun g => (g, 0)) ++ L).getD j (0, 0), ⟨fun μ' hμ => ?_, Agree.refl _ _, Nat.zero_le _⟩, fun ν' hν => ?_⟩
      · obtain ⟨h1, _⟩ := look μ' (fun j hj => hμ j hj)
        refine ⟨Below.refl _ _, fun id v hv => h1 id v hv, fun i j hi hj hb e => ?_⟩
        have hh := h1 i _ (List.getElem?_eq_getElem hi)
        exact absurd hb (Nat.not_le.2 hh.lt)
      · obtain ⟨_, h2⟩ := look ν' (fun j hj => hν j hj)
        rw [h2]
    · cases h
  · cases h

section
variable {P : Program} {F : Orc} {G : GOrc}

/-- A callee that reads what it is handed, and answers a plain value. -/
theorem reads_ok (hM : P.follows .mixedOrders = true) (hF : OrcOK P F) (hG : GOrcOK P G) {N : Nat} {f : FuncId} {fn : Func} (hf : P.funcs[f]? = some fn) (hb : fn.body.isSome = true) (hn : (fn.name == "runtime.NumGoroutine") = false)
    {gs : List Nat} {vs m as ro : List V} (hv : views gs vs m = some (as, ro)) {r : V} (hr : r.flat = true) {n : Nat}
    (h : awp P F G N (body fn) (ends P fn fun v _ => okV r v) ⟨as ++ List.replicate n V.un, ro⟩) (hnt : n = fn.ntmps - as.length) :
    ∀ μ B w0 w, B ≤ w0.heap.size → Rel μ B w0 m w → PureAt P f (vs.map (V.den μ)).toArray (r.den μ) w := by
  intro μ B w0 w hB hrel
  obtain ⟨c, hc⟩ := Option.isSome_iff_exists.1 hb
  have hbody : body fn = c := by simp [body, hc]
  rw [hbody] at h
  subst hnt
  obtain ⟨ν, hm, hargs⟩ := view_mem hrel hv
  refine .inr ⟨callFunc_body hf hc hn _ w, ?_⟩
  refine (calls_of_awp (C := ⟨w.heap.size, w, 0, ν⟩) hM hF hG hf hc (Nat.le_refl _) hm hargs h).mono fun e w' ⟨v, m', μ1, val, hK, he, hrm, hval⟩ => ?_
  have e1 := hval μ1 (Agree.refl _ _)
  unfold okV at hK
  split at hK
  · rename_i hfl
    rw [flat_den hfl z0 μ1, hK, flat_den hr μ z0] at e1
    subst e1
    exact ⟨he, (hrm.all μ1 (Agree.refl _ _)).below⟩
  · exact hK.elim

/-- One callee more that may be handed slices. -/
def extM (f0 : FuncId) (g : List V → List V → Option (Bool × V)) (F : Orc) : Orc := fun f vs m => bif Nat.beq f f0 then g vs m else F f vs m
theorem extM_ok (hF : OrcOK P F) {f0 : FuncId} {g : List V → List V → Option (Bool × V)}
    (h : ∀ vs m v, g vs m = some (true, v) → v.flat = true ∧ ∀ μ B w0 w, B ≤ w0.heap.size → Rel μ B w0 m w → PureAt P f0 (vs.map (V.den μ)).toArray (v.den μ) w)
    (hg : ∀ vs m z r, g vs m = some r → g vs (m ++ [z]) = some r) : OrcOK P (extM f0 g F) := by
  refine ⟨fun f vs m v hv => ?_, fun f vs m z r hv => ?_⟩
  · unfold extM at hv
    by_cases hf : f = f0
    · rw [beqT.2 hf] at hv
      simp only [cond_true] at hv
      obtain ⟨h1, h2⟩ := h vs m v hv
      subst hf
      exact ⟨fun μ μ' _ => flat_den h1 μ μ', h2⟩
    · rw [ff beqT hf] at hv
      exact hF.1 f vs m v hv
  · unfold extM at hv ⊢
    by_cases hf : f = f0
    · rw [beqT.2 hf] at hv ⊢
      exact hg _ _ _ _ hv
    · rw [ff beqT hf] at hv ⊢
      exact hF.2 f vs m z r hv

/-- What a maker leaves: one block more, n of whose cells are told, and a value that names it. -/
structure Made where
  k : IntKind
  n : Nat
  h : Nat → Int
  res : Nat → Nat → V

def madeK (d : Made) (v : V) (m : List V) : Prop := ∃ id cap hh, (∀ μ, v.den μ = (d.res id cap).den μ) ∧ m[id]? = some (.ints d.k cap hh) ∧ d.n ≤ cap ∧ ∀ j, j < d.n → hh j = d.h j

/-- A callee that makes a list and answers it. -/
theorem makes_ok {f : FuncId} {fn : Func} (hf : P.funcs[f]? = some fn) (hb : fn.body.isSome = true) (hn : (fn.name == "runtime.NumGoroutine") = false)
    {gs : List Nat} {vs m as ro : List V} (hv : views gs vs m = some (as, ro)) {d : Made} (hd : ∀ (μ μ' : Mu) (i i' cap : Nat), μ i = μ' i' → (d.res i cap).den μ = (d.res i' cap).den μ')
    {μ : Mu} {w : World} {C : Ctx} (hB : C.B ≤ C.w0.heap.size) (hm : RelM C μ m w)
    (h : ∀ (ν : Mu) (C' : Ctx), RelM C' ν ro w → C' = ⟨w.heap.size, w, 0, ν⟩ → (∀ ν', Agree ro.length ν ν' → (vs.map (V.den μ)).toArray = (as.map (V.den ν')).toArray) →
      Calls P f (vs.map (V.den μ)).toArray w fun e w' => ∃ v m' μ1 val, madeK d v m' ∧ e = .returned val ∧ RelM C' μ1 m' w' ∧ ∀ μ', Agree m'.length μ1 μ' → val = v.den μ') {K : V → List V → Prop}
    (hK : ∀ cap hh, d.n ≤ cap → (∀ j, j < d.n → hh j = d.h j) → K (d.res m.length cap) (m ++ [.ints d.k cap hh])) :
    (callFunc f (vs.map (V.den μ)).toArray).run P w = .ok (.enter f (vs.map (V.den μ)).toArray) w ∧
    Calls P f (vs.map (V.den μ)).toArray w fun e w' => ∃ v m' μ1 val, K v m' ∧ e = .returned val ∧ m.length ≤ m'.length ∧ Agree m.length μ μ1 ∧ RelM C μ1 m' w' ∧ ∀ μ', Agree m'.length μ1 μ' → val = v.den μ' := by
  obtain ⟨c, hc⟩ := Option.isSome_iff_exists.1 hb
  have hrel := hm.all μ (Agree.refl _ _)
  obtain ⟨ν, hmv, hargs⟩ := view_mem hrel hv
  refine ⟨callFunc_body hf hc hn _ w, (h ν _ hmv rfl hargs).mono fun e w' ⟨v, m', μ1, val, ⟨id, cap, hh, hv1, hid, hcap, hcells⟩, he, hrm, hval⟩ => ?_⟩
  have hr1 := hrm.all μ1 (Agree.refl _ _)
  have hheld := (hr1.hold id _ hid).own rfl
  obtain ⟨o1, o2, t, ht⟩ := hheld
  have o1 : w.heap.size ≤ (μ1 id).1 := o1
  let μ2 : Mu := fun j => if j = m.length then μ1 id else μ j
  have h2n : μ2 m.length = μ1 id := by show (if _ then _ else _) = _; rw [if_pos rfl]
  have hag : Agree m.length μ μ2 := fun j hj => by show (if _ then _ else _) = _; rw [if_neg (by omega)]
  refine ⟨_, _, μ2, val, hK cap hh hcap hcells, he, by simp, hag, ⟨fun μ3 h3 => ?_, hm.ext.trans (hag.mono hm.len), by have := hm.len; simp; omega⟩, fun μ3 h3 => ?_⟩
  · have hm3 : Agree m.length μ μ3 := hag.trans (h3.mono (by simp))
    have hold := hm.all μ3 hm3
    have h3n : μ3 m.length = μ1 id := by rw [h3 m.length (by simp), h2n]
    have hBw : C.B ≤ w.heap.size := hold.size hB
    refine ⟨hold.below.trans (hr1.below.mono hBw), fun j x hx => ?_, fun i j hi hj hb e => ?_⟩
    · rw [List.getElem?_append] at hx
      split at hx
      · have hj := hold.hold j x hx
        exact hj.keep (hr1.below.block _ hj.lt)
      · rename_i hj
        have e : j = m.length := by
          have := (List.getElem?_eq_some_iff.1 hx).1
          simp at this; omega
        subst e
        simp at hx; subst hx
        refine Held.mk rfl ?_
        rw [h3n]
        refine ⟨Nat.le_trans hBw o1, o2, t, ?_⟩
        rw [ht]
        simp [V.den]
    · simp only [List.length_append, List.length_cons, List.length_nil] at hi hj
      have key : ∀ i, i < m.length → (μ3 i).1 < w.heap.size := fun i hi => (hold.hold i m[i] (List.getElem?_eq_getElem hi)).lt
      by_cases h1 : i < m.length
      · by_cases h2 : j < m.length
        · exact hold.inj i j h1 h2 hb e
        · have : j = m.length := by omega
          subst this; rw [h3n] at e; have := key i h1; omega
      · have : i = m.length := by omega
        subst this
        by_cases h2 : j < m.length
        · rw [h3n] at e; have := key j h2; omega
        · omega
  · have e1 := hval μ1 (Agree.refl _ _)
    rw [e1, hv1 μ1]
    refine hd μ1 μ3 id m.length cap ?_
    rw [h3 m.length (by simp), h2n]

/-- n cells of d, then those of hh. -/
def apx (n : Nat) (d hh : Nat → Int) : Nat → Int := fun j => bif Nat.blt j n then d j else hh j
theorem apx_at (n : Nat) (d hh : Nat → Int) (j : Nat) : apx n d hh j = if j < n then d j else hh j := by
  unfold apx
  by_cases h : j < n
  · rw [bltT.2 h, if_pos h]; rfl
  · rw [ff bltT h, if_neg h]; rfl
theorem apx_eq {n : Nat} {d hh : Nat → Int} (h : ∀ j, j < n → hh j = d j) : apx n d hh = hh := by
  funext j
  rw [apx_at]
  split
  · rw [h j (by assumption)]
  · rfl
/-- One maker more. -/
def mkG (f0 : FuncId) (g : List V → List V → Option (Bool × Made)) (G : GOrc) : GOrc := fun f vs m K => match Nat.beq f f0 with
  | true => match g vs m with
    | some (b, d) => gd b (∀ e hh, K (d.res m.length (e + d.n)) (m ++ [.ints d.k (e + d.n) (apx d.n d.h hh)]))
    | none => False
  | false => G f vs m K
theorem mkG_ok (hG : GOrcOK P G) {f0 : FuncId} {g : List V → List V → Option (Bool × Made)}
    (h : ∀ vs m d, g vs m = some (true, d) → ∀ (C : Ctx) (μ : Mu) (w : World) (K : V → List V → Prop), C.B ≤ C.w0.heap.size → RelM C μ m w →
      (∀ cap hh, d.n ≤ cap → (∀ j, j < d.n → hh j = d.h j) → K (d.res m.length cap) (m ++ [.ints d.k cap hh])) →
      (callFunc f0 (vs.map (V.den μ)).toArray).run P w = .ok (.enter f0 (vs.map (V.den μ)).toArray) w ∧
      Calls P f0 (vs.map (V.den μ)).toArray w fun e w' => ∃ v m' μ1 val, K v m' ∧ e = .returned val ∧ m.length ≤ m'.length ∧ Agree m.length μ μ1 ∧ RelM C μ1 m' w' ∧ ∀ μ', Agree m'.length μ1 μ' → val = v.den μ') :
    GOrcOK P (mkG f0 g G) := by
  intro f vs m K hk C μ w args hB hm hargs
  unfold mkG at hk
  split at hk
  · rename_i hf
    have := beqT.1 hf; subst this
    split at hk
    · rename_i b d hgd
      obtain ⟨hb, hk2⟩ := gd_true hk
      subst hb
      have ha := hargs μ (Agree.refl _ _)
      subst ha
      refine h vs m d hgd C μ w K hB hm fun cap hh hc he => ?_
      have := hk2 (cap - d.n) hh
      rw [apx_eq he, Nat.sub_add_cancel hc] at this
      exact this
    · exact hk.elim
  · exact hG f vs m K hk C μ w args hB hm hargs
/-- A maker whose body the evaluator goes through. -/
theorem makes_awp (hM : P.follows .mixedOrders = true) (hF : OrcOK P F) (hG : GOrcOK P G) {N : Nat} {f : FuncId} {fn : Func} (hf : P.funcs[f]? = some fn) (hb : fn.body.isSome = true) (hn : (fn.name == "runtime.NumGoroutine") = false)
    {gs : List Nat} {vs m as ro : List V} (hv : views gs vs m = some (as, ro)) {d : Made} (hd : ∀ (μ μ' : Mu) (i i' cap : Nat), μ i = μ' i' → (d.res i cap).den μ = (d.res i' cap).den μ') {n : Nat}
    (h : awp P F G N (body fn) (ends P fn fun v m => madeK d v m) ⟨as ++ List.replicate n V.un, ro⟩) (hnt : n = fn.ntmps - as.length)
    {C : Ctx} {μ : Mu} {w : World} {K : V → List V → Prop} (hB : C.B ≤ C.w0.heap.size) (hm : RelM C μ m w)
    (hK : ∀ cap hh, d.n ≤ cap → (∀ j, j < d.n → hh j = d.h j) → K (d.res m.length cap) (m ++ [.ints d.k cap hh])) :
    (callFunc f (vs.map (V.den μ)).toArray).run P w = .ok (.enter f (vs.map (V.den μ)).toArray) w ∧
    Calls P f (vs.map (V.den μ)).toArray w fun e w' => ∃ v m' μ1 val, K v m' ∧ e = .returned val ∧ m.length ≤ m'.length ∧ Agree m.length μ μ1 ∧ RelM C μ1 m' w' ∧ ∀ μ', Agree m'.length μ1 μ' → val = v.den μ' := by
  obtain ⟨c, hc⟩ := Option.isSome_iff_exists.1 hb
  have hbody : body fn = c := by simp [body, hc]
  rw [hbody] at h
  subst hnt
  refine makes_ok hf hb hn hv hd hB hm (fun ν C' hr hC ha => ?_) hK
  exact calls_of_awp hM hF hG hf hc (by rw [hC]; exact Nat.le_refl _) hr ha h
end
end Go.Ev
