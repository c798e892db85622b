/-
  A callee that makes one list of integers and answers it. Conditions: none.
-/
import Derived.Test.YtbnclikjbnfodaaFvL
namespace Go.Ev
section
variable {P : Program} {F : Orc} {G : GOrc}
/-- What a maker leaves: one block more, n of whose cells are told, and a value that names it. -/
structure Made where
  k : IntKind
  n : Nat
  h : Nat → Int
  res : Nat → Nat → V

def madeK (d : Made) (v : V) (m : List V) : Prop := ∃ id cap hh, (∀ μ, v.den μ = (d.res id cap).den μ) ∧ m[id]? = some (.ints d.k cap hh) ∧ d.n ≤ cap ∧ ∀ j, j < d.n → hh j = d.h j

theorem made_told {d : Made} (hd : ∀ (μ μ' : Mu) (i i' cap : Nat), μ i = μ' i' → (d.res i cap).den μ = (d.res i' cap).den μ') {g : Nat} {v : V} {m : List V} (h : madeK d v m) :
    ∃ t : Told, (∃ cap hh, d.n ≤ cap ∧ (∀ j, j < d.n → hh j = d.h j) ∧ t = ⟨d.res 0 cap, [], [.ints d.k cap hh]⟩) ∧ toldIn g 0 t v m := by
  obtain ⟨id, cap, hh, h1, h2, h3, h4⟩ := h
  refine ⟨⟨d.res 0 cap, [], [.ints d.k cap hh]⟩, ⟨cap, hh, h3, h4, rfl⟩, [id], rfl, by simp, fun i _ p hp => by omega, rfl, fun ν κ _ hk => ⟨?_, fun j c hc => by simp at hc, fun j c i hc hi => ?_⟩⟩
  · rw [h1 ν]
    exact hd ν κ id 0 cap (by have := hk 0 id rfl; simpa using this.symm)
  · cases j with
    | zero =>
      simp only [List.getElem?_cons_zero, Option.some.injEq] at hc hi
      subst hc hi
      exact ⟨rfl, _, h2, rfl, by simp [V.den]⟩
    | succ j => simp at hi

/-- n cells of d, then those of hh. -/
def apx {α : Type} (n : Nat) (d hh : Nat → α) : Nat → α := fun j => bif Nat.blt j n then d j else hh j
theorem apx_at {α : Type} (n : Nat) (d hh : Nat → α) (j : Nat) : apx n d hh j = if j < n then d j else hh j := by
  unfold apx
  by_cases h : j < n
  · rw [bltT.2 h, if_pos h]; rfl
  · rw [ff bltT h, if_neg h]; rfl
theorem apx_eq {α : Type} {n : Nat} {d hh : Nat → α} (h : ∀ j, j < n → hh j = d j) : apx n d hh = hh := by
  funext j
  rw [apx_at]
  split
  · rw [h j (by assumption)]
  · rfl
/-- One maker more. -/
def mkG (f0 : FuncId) (g : List V → List V → Option (Bool × Made)) (G : GOrc) : GOrc := extG f0 (fun vs m K => match g vs m with
    | some (b, d) => gd b (∀ e hh, K (d.res m.length (e + d.n)) (m ++ [.ints d.k (e + d.n) (apx d.n d.h hh)]))
    | none => False) G
theorem mkG_ok (hG : GOrcOK P G) {f0 : FuncId} {g : List V → List V → Option (Bool × Made)}
    (h : ∀ vs m d, g vs m = some (true, d) → ∀ (K : V → List V → Prop), (∀ cap hh, d.n ≤ cap → (∀ j, j < d.n → hh j = d.h j) → K (d.res m.length cap) (m ++ [.ints d.k cap hh])) → CallsG P f0 vs m K) :
    GOrcOK P (mkG f0 g G) := by
  refine extG_ok hG fun vs m K hk => ?_
  split at hk
  · rename_i b d hgd
    obtain ⟨hb, hk2⟩ := gd_true hk
    subst hb
    refine h vs m d hgd K fun cap hh hc he => ?_
    have := hk2 (cap - d.n) hh
    rw [apx_eq he, Nat.sub_add_cancel hc] at this
    exact this
  · exact hk.elim
theorem back_made {d : Made} {m : List V} {K : V → List V → Prop} (hd : ∀ (ρ : Nat → Nat) (i cap : Nat), (d.res i cap).ren ρ = d.res (ρ i) cap)
    (hK : ∀ cap hh, d.n ≤ cap → (∀ j, j < d.n → hh j = d.h j) → K (d.res m.length cap) (m ++ [.ints d.k cap hh])) (t : Told) (ht : ∃ cap hh, d.n ≤ cap ∧ (∀ j, j < d.n → hh j = d.h j) ∧ t = ⟨d.res 0 cap, [], [.ints d.k cap hh]⟩) :
    K (backV [] t m) (backM [] t m) := by
  obtain ⟨cap, hh, h1, h2, rfl⟩ := ht
  have e1 : backV [] ⟨d.res 0 cap, [], [.ints d.k cap hh]⟩ m = d.res m.length cap := by
    unfold backV
    rw [hd]
    congr 1
  have e2 : backM [] ⟨d.res 0 cap, [], [.ints d.k cap hh]⟩ m = m ++ [.ints d.k cap hh] := by
    simp [backM, setO, V.ren]
  rw [e1, e2]
  exact hK cap hh h1 h2
/-- A maker whose body the evaluator goes through. -/
theorem makes_awp (hM : P.follows .mixedOrders = true) (hF : OrcOK P F) (hG : GOrcOK P G) {N : Nat} {f : FuncId} {fn : Func} (hf : P.funcs[f]? = some fn) (hb : fn.body.isSome = true) (hn : (fn.name == "runtime.NumGoroutine") = false)
    {gs : List Nat} {vs m as ro : List V} (hv : views gs vs m = some (as, ro)) {d : Made} (hd : ∀ (μ μ' : Mu) (i i' cap : Nat), μ i = μ' i' → (d.res i cap).den μ = (d.res i' cap).den μ') (hd2 : ∀ (ρ : Nat → Nat) (i cap : Nat), (d.res i cap).ren ρ = d.res (ρ i) cap) {n : Nat}
    (h : awp P F G N (body fn) (ends P fn fun v m => madeK d v m) ⟨as ++ List.replicate n V.un, ro⟩) (hnt : n = fn.ntmps - as.length) {K : V → List V → Prop}
    (hK : ∀ cap hh, d.n ≤ cap → (∀ j, j < d.n → hh j = d.h j) → K (d.res m.length cap) (m ++ [.ints d.k cap hh])) : CallsG P f vs m K := by
  intro C μ w hB hm
  obtain ⟨c, hc⟩ := Option.isSome_iff_exists.1 hb
  have hbody : body fn = c := by simp [body, hc]
  rw [hbody] at h
  subst hnt
  refine ⟨callFunc_body hf hc hn _ w, frames_ok (own := []) hv hB hm (T := fun t => ∃ cap hh, d.n ≤ cap ∧ (∀ j, j < d.n → hh j = d.h j) ∧ t = ⟨d.res 0 cap, [], [.ints d.k cap hh]⟩) (fun ν C' hB' hr _ ha => ?_) (back_made hd2 hK)⟩
  exact (calls_of_awp hM hF hG hf hc hB' hr ha h).mono fun e w' ⟨v, m', μ1, val, hk, h2⟩ => ⟨v, m', μ1, val, made_told hd hk, h2⟩
theorem makes_awq (hM : P.follows .mixedOrders = true) (hF : OrcOK P F) (hG : GOrcOK P G) {N : Nat} {f : FuncId} {fn : Func} (hf : P.funcs[f]? = some fn) (hb : fn.body.isSome = true) (hn : (fn.name == "runtime.NumGoroutine") = false)
    {gs : List Nat} {vs m as ro : List V} (hv : views gs vs m = some (as, ro)) {d : Made} (hd : ∀ (μ μ' : Mu) (i i' cap : Nat), μ i = μ' i' → (d.res i cap).den μ = (d.res i' cap).den μ') (hd2 : ∀ (ρ : Nat → Nat) (i cap : Nat), (d.res i cap).ren ρ = d.res (ρ i) cap) {n n0 : Nat}
    (h : awq P F G n0 N (body fn) (ends P fn fun v m => madeK d v m) ⟨as ++ List.replicate n V.un, ro⟩) (hnt : n = fn.ntmps - as.length) (h0 : n0 = ro.length) {K : V → List V → Prop}
    (hK : ∀ cap hh, d.n ≤ cap → (∀ j, j < d.n → hh j = d.h j) → K (d.res m.length cap) (m ++ [.ints d.k cap hh])) : CallsG P f vs m K := by
  intro C μ w hB hm
  obtain ⟨c, hc⟩ := Option.isSome_iff_exists.1 hb
  have hbody : body fn = c := by simp [body, hc]
  rw [hbody] at h
  subst hnt h0
  refine ⟨callFunc_body hf hc hn _ w, frames_ok (own := []) hv hB hm (T := fun t => ∃ cap hh, d.n ≤ cap ∧ (∀ j, j < d.n → hh j = d.h j) ∧ t = ⟨d.res 0 cap, [], [.ints d.k cap hh]⟩) (fun ν C' hB' hr hC ha => ?_) (back_made hd2 hK)⟩
  exact (calls_of_awq hM hF hG hf hc hB' hC hr ha h).mono fun e w' ⟨v, m', μ1, val, hk, h2⟩ => ⟨v, m', μ1, val, made_told hd hk, h2⟩
end
end Go.Ev
