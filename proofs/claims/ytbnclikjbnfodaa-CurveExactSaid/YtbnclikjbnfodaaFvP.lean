/-
  Callees that answer one of two ways: a plain value, or a value that names one new list. Conditions: none.
-/
import Derived.Test.YtbnclikjbnfodaaFvO
namespace Go.Ev
section
variable {P : Program} {F : Orc} {G : GOrc}
/-- A callee whose end is told. -/
theorem gens_awq (hM : P.follows .mixedOrders = true) (hF : OrcOK P F) (hG : GOrcOK P G) {N : Nat} {f : FuncId} {fn : Func} (hf : P.funcs[f]? = some fn) (hb : fn.body.isSome = true) (hn : (fn.name == "runtime.NumGoroutine") = false)
    {gs own : List Nat} {vs m as ro : List V} (hv : viewO gs own vs m = some (as, ro)) {K0 : V → List V → Prop} {T : Told → Prop} (hT : ∀ v m', K0 v m' → ∃ t, T t ∧ toldIn gs.length own.length t v m') {n n0 : Nat}
    (h : awq P F G n0 N (body fn) (ends P fn K0) ⟨as ++ List.replicate n V.un, ro⟩) (hnt : n = fn.ntmps - as.length) (h0 : n0 = ro.length) {K : V → List V → Prop}
    (hK : ∀ t, T t → K (backV own t m) (backM own t m)) : CallsG P f vs m K := by
  intro C μ w hB hm
  obtain ⟨c, hc⟩ := Option.isSome_iff_exists.1 hb
  have hbody : body fn = c := by simp [body, hc]
  rw [hbody] at h
  subst hnt h0
  refine ⟨callFunc_body hf hc hn _ w, frames_ok hv hB hm (T := T) (fun ν C' hB' hr hC ha => ?_) hK⟩
  exact (calls_of_awq hM hF hG hf hc hB' hC hr ha h).mono fun e w' ⟨v, m', μ1, val, hk, h2⟩ => ⟨v, m', μ1, val, hT _ _ hk, h2⟩

/-- A plain value. -/
theorem flat_told {g : Nat} {r : V} (hr : r.flat = true) {m : List V} : toldIn g 0 ⟨r, [], []⟩ r m :=
  ⟨[], rfl, List.nodup_nil, (fun i hi => by cases hi), rfl, fun ν κ _ _ => ⟨flat_den hr κ ν, fun j c hc => by simp at hc, fun j c i hc _ => by simp at hc⟩⟩
theorem flat_back {m : List V} {r : V} (h : ∀ ρ, r.ren ρ = r) {K : V → List V → Prop} (hK : K r m) : K (backV [] ⟨r, [], []⟩ m) (backM [] ⟨r, [], []⟩ m) := by
  have e1 : backV [] ⟨r, [], []⟩ m = r := h _
  have e2 : backM [] ⟨r, [], []⟩ m = m := by simp [backM, setO]
  rw [e1, e2]; exact hK

def nilK (b : Bool) (d : Made) (v : V) (m : List V) : Prop := (b = true ∧ v = .snil) ∨ (b = false ∧ madeK d v m)
theorem nils_awq (hM : P.follows .mixedOrders = true) (hF : OrcOK P F) (hG : GOrcOK P G) {N : Nat} {f : FuncId} {fn : Func} (hf : P.funcs[f]? = some fn) (hb : fn.body.isSome = true) (hn : (fn.name == "runtime.NumGoroutine") = false)
    {gs : List Nat} {vs m as ro : List V} (hv : views gs vs m = some (as, ro)) {b : Bool} {d : Made} (hd : ∀ (μ μ' : Mu) (i i' cap : Nat), μ i = μ' i' → (d.res i cap).den μ = (d.res i' cap).den μ') (hd2 : ∀ (ρ : Nat → Nat) (i cap : Nat), (d.res i cap).ren ρ = d.res (ρ i) cap) {n n0 : Nat}
    (h : awq P F G n0 N (body fn) (ends P fn fun v m => nilK b d v m) ⟨as ++ List.replicate n V.un, ro⟩) (hnt : n = fn.ntmps - as.length) (h0 : n0 = ro.length) {K : V → List V → Prop}
    (hK1 : b = true → K .snil m) (hK : b = false → ∀ cap hh, d.n ≤ cap → (∀ j, j < d.n → hh j = d.h j) → K (d.res m.length cap) (m ++ [.ints d.k cap hh])) : CallsG P f vs m K := by
  refine gens_awq (own := []) hM hF hG hf hb hn hv (T := fun t => (b = true ∧ t = ⟨.snil, [], []⟩) ∨ (b = false ∧ ∃ cap hh, d.n ≤ cap ∧ (∀ j, j < d.n → hh j = d.h j) ∧ t = ⟨d.res 0 cap, [], [.ints d.k cap hh]⟩)) (fun v m' hk => ?_) h hnt h0 (fun t ht => ?_)
  · rcases hk with ⟨h1, rfl⟩ | ⟨h1, h2⟩
    · exact ⟨_, .inl ⟨h1, rfl⟩, flat_told rfl⟩
    · obtain ⟨t, ht, h3⟩ := made_told hd h2
      exact ⟨t, .inr ⟨h1, ht⟩, h3⟩
  · rcases ht with ⟨h1, rfl⟩ | ⟨h1, ht⟩
    · exact flat_back (fun _ => rfl) (hK1 h1)
    · exact back_made hd2 (hK h1) t ht

/-- One new list of truth values, exactly. -/
structure MadeB where
  n : Nat
  h : Nat → Bool
  res : Nat → V
def madeB (d : MadeB) (v : V) (m : List V) : Prop := ∃ id hh, v = d.res id ∧ m[id]? = some (.bools d.n hh) ∧ ∀ j, j < d.n → hh j = d.h j
def altK (b : Bool) (r : V) (d : MadeB) (v : V) (m : List V) : Prop := (b = true ∧ v = r) ∨ (b = false ∧ madeB d v m)
theorem bools_eq {n : Nat} {f g : Nat → Bool} (μ ν : Mu) (h : ∀ j, j < n → f j = g j) : (V.bools n f).den μ = (V.bools n g).den ν := by
  simp only [V.den]
  congr 1
  apply congrArg
  apply List.map_congr_left
  intro j hj
  rw [h j (List.mem_range.1 hj)]
theorem madeB_told {d : MadeB} (hd : ∀ (μ μ' : Mu) (i i' : Nat), μ i = μ' i' → (d.res i).den μ = (d.res i').den μ') {g : Nat} {v : V} {m : List V} (h : madeB d v m) : toldIn g 0 ⟨d.res 0, [], [.bools d.n d.h]⟩ v m := by
  obtain ⟨id, hh, h1, h2, h3⟩ := h
  refine ⟨[id], rfl, by simp, fun i _ p hp => by omega, rfl, fun ν κ _ hk => ⟨?_, fun j c hc => by simp at hc, fun j c i hc hi => ?_⟩⟩
  · rw [h1]
    exact hd ν κ id 0 (by have := hk 0 id rfl; simpa using this.symm)
  · cases j with
    | zero =>
      simp only [List.getElem?_cons_zero, Option.some.injEq] at hc hi
      subst hc hi
      exact ⟨rfl, _, h2, rfl, bools_eq ν κ h3⟩
    | succ j => simp at hi
theorem back_madeB {d : MadeB} {m : List V} {K : V → List V → Prop} (hd : ∀ (ρ : Nat → Nat) (i : Nat), (d.res i).ren ρ = d.res (ρ i)) (hK : K (d.res m.length) (m ++ [.bools d.n d.h])) :
    K (backV [] ⟨d.res 0, [], [.bools d.n d.h]⟩ m) (backM [] ⟨d.res 0, [], [.bools d.n d.h]⟩ m) := by
  have e1 : backV [] ⟨d.res 0, [], [.bools d.n d.h]⟩ m = d.res m.length := by
    unfold backV
    rw [hd]
    congr 1
  have e2 : backM [] ⟨d.res 0, [], [.bools d.n d.h]⟩ m = m ++ [.bools d.n d.h] := by
    simp [backM, setO, V.ren]
  rw [e1, e2]
  exact hK
theorem alts_awq (hM : P.follows .mixedOrders = true) (hF : OrcOK P F) (hG : GOrcOK P G) {N : Nat} {f : FuncId} {fn : Func} (hf : P.funcs[f]? = some fn) (hb : fn.body.isSome = true) (hn : (fn.name == "runtime.NumGoroutine") = false)
    {gs : List Nat} {vs m as ro : List V} (hv : views gs vs m = some (as, ro)) {b : Bool} {r : V} {d : MadeB} (hr : r.flat = true) (hr2 : ∀ ρ, r.ren ρ = r) (hd : ∀ (μ μ' : Mu) (i i' : Nat), μ i = μ' i' → (d.res i).den μ = (d.res i').den μ') (hd2 : ∀ (ρ : Nat → Nat) (i : Nat), (d.res i).ren ρ = d.res (ρ i)) {n n0 : Nat}
    (h : awq P F G n0 N (body fn) (ends P fn fun v m => altK b r d v m) ⟨as ++ List.replicate n V.un, ro⟩) (hnt : n = fn.ntmps - as.length) (h0 : n0 = ro.length) {K : V → List V → Prop}
    (hK1 : b = true → K r m) (hK : b = false → K (d.res m.length) (m ++ [.bools d.n d.h])) : CallsG P f vs m K := by
  refine gens_awq (own := []) hM hF hG hf hb hn hv (T := fun t => (b = true ∧ t = ⟨r, [], []⟩) ∨ (b = false ∧ t = ⟨d.res 0, [], [.bools d.n d.h]⟩)) (fun v m' hk => ?_) h hnt h0 (fun t ht => ?_)
  · rcases hk with ⟨h1, rfl⟩ | ⟨h1, h2⟩
    · exact ⟨_, .inl ⟨h1, rfl⟩, flat_told hr⟩
    · exact ⟨_, .inr ⟨h1, rfl⟩, madeB_told hd h2⟩
  · rcases ht with ⟨h1, rfl⟩ | ⟨h1, rfl⟩
    · exact flat_back hr2 (hK1 h1)
    · exact back_madeB hd2 (hK h1)

/-- The same, but that instead of a plain value it may answer the list that it was handed (the block 'own'). -/
def sameK (b : Bool) (g : Nat) (d : MadeB) (res0 : Nat → V) (N : Nat) (f : Nat → Bool) (v : V) (m : List V) : Prop :=
  m[g]? = some (.bools N f) ∧ ((b = true ∧ v = res0 g) ∨ (b = false ∧ ∃ id hh, id ≠ g ∧ v = d.res id ∧ m[id]? = some (.bools d.n hh) ∧ ∀ j, j < d.n → hh j = d.h j))
theorem same_awq (hM : P.follows .mixedOrders = true) (hF : OrcOK P F) (hG : GOrcOK P G) {N : Nat} {f : FuncId} {fn : Func} (hf : P.funcs[f]? = some fn) (hb : fn.body.isSome = true) (hn : (fn.name == "runtime.NumGoroutine") = false)
    {gs : List Nat} {own : Nat} {vs m as ro : List V} (hv : viewO gs [own] vs m = some (as, ro)) {b : Bool} {d : MadeB} {res0 : Nat → V} {N0 : Nat} {f0 : Nat → Bool}
    (hr : ∀ (μ μ' : Mu) (i i' : Nat), μ i = μ' i' → (res0 i).den μ = (res0 i').den μ') (hr2 : ∀ (ρ : Nat → Nat) (i : Nat), (res0 i).ren ρ = res0 (ρ i)) (hd : ∀ (μ μ' : Mu) (i i' : Nat), μ i = μ' i' → (d.res i).den μ = (d.res i').den μ') (hd2 : ∀ (ρ : Nat → Nat) (i : Nat), (d.res i).ren ρ = d.res (ρ i)) {n n0 : Nat}
    (h : awq P F G n0 N (body fn) (ends P fn fun v m => sameK b gs.length d res0 N0 f0 v m) ⟨as ++ List.replicate n V.un, ro⟩) (hnt : n = fn.ntmps - as.length) (h0 : n0 = ro.length) {K : V → List V → Prop}
    (hK1 : b = true → K (res0 own) (m.set own (.bools N0 f0))) (hK : b = false → K (d.res m.length) (m.set own (.bools N0 f0) ++ [.bools d.n d.h])) : CallsG P f vs m K := by
  refine gens_awq (own := [own]) hM hF hG hf hb hn hv (T := fun t => (b = true ∧ t = ⟨res0 0, [.bools N0 f0], []⟩) ∨ (b = false ∧ t = ⟨d.res 1, [.bools N0 f0], [.bools d.n d.h]⟩)) (fun v m' hk => ?_) h hnt h0 (fun t ht => ?_)
  · obtain ⟨ho, hk⟩ := hk
    rcases hk with ⟨h1, rfl⟩ | ⟨h1, id, hh, h5, rfl, h2, h3⟩
    · refine ⟨_, .inl ⟨h1, rfl⟩, [], rfl, List.nodup_nil, (fun i hi => by cases hi), rfl, fun ν κ hk _ => ⟨?_, fun j c hc => ?_, fun j c i hc _ => by simp at hc⟩⟩
      · exact hr ν κ gs.length 0 (hk 0 (by simp)).symm
      · cases j with
        | zero =>
          simp only [List.getElem?_cons_zero, Option.some.injEq] at hc
          subst hc
          exact ⟨rfl, _, ho, rfl, bools_eq ν κ fun _ _ => rfl⟩
        | succ j => simp at hc
    · refine ⟨_, .inr ⟨h1, rfl⟩, [id], rfl, by simp, fun i hi p hp => ?_, rfl, fun ν κ hk hk2 => ⟨?_, fun j c hc => ?_, fun j c i hc hi => ?_⟩⟩
      · simp only [List.mem_singleton] at hi
        simp only [List.length_singleton] at hp
        subst hi
        obtain rfl : p = 0 := by omega
        exact h5
      · exact hd ν κ id 1 (hk2 0 id rfl).symm
      · cases j with
        | zero =>
          simp only [List.getElem?_cons_zero, Option.some.injEq] at hc
          subst hc
          exact ⟨rfl, _, ho, rfl, bools_eq ν κ fun _ _ => rfl⟩
        | succ j => simp at hc
      · cases j with
        | zero =>
          simp only [List.getElem?_cons_zero, Option.some.injEq] at hc hi
          subst hc hi
          exact ⟨rfl, _, h2, rfl, bools_eq ν κ h3⟩
        | succ j => simp at hi
  · rcases ht with ⟨h1, rfl⟩ | ⟨h1, rfl⟩
    · have e1 : backV [own] ⟨res0 0, [.bools N0 f0], []⟩ m = res0 own := by
        unfold backV; rw [hr2]; rfl
      have e2 : backM [own] ⟨res0 0, [.bools N0 f0], []⟩ m = m.set own (.bools N0 f0) := by simp [backM, setO, V.ren]
      rw [e1, e2]; exact hK1 h1
    · have e1 : backV [own] ⟨d.res 1, [.bools N0 f0], [.bools d.n d.h]⟩ m = d.res m.length := by
        unfold backV; rw [hd2]; rfl
      have e2 : backM [own] ⟨d.res 1, [.bools N0 f0], [.bools d.n d.h]⟩ m = m.set own (.bools N0 f0) ++ [.bools d.n d.h] := by simp [backM, setO, V.ren]
      rw [e1, e2]; exact hK h1
end
end Go.Ev
