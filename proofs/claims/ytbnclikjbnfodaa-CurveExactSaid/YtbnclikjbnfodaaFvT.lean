/-
  Contracts from bodies gone through by segments. Conditions: none.
-/
import Derived.Test.YtbnclikjbnfodaaFvR
import Derived.Test.YtbnclikjbnfodaaFvP
namespace Go.Ev
open Go.RowKit
section
variable {P : Program} {F : Orc} {G : GOrc}
theorem ok_start {fn : Func} {lv : List Nat} {n0 : Nat} {c : Code} {Q : Exit → St → Prop} {as m : List V} (h : OkL P n0 fn.ntmps lv c Q (pick lv as) m) (hlen : as.length ≤ fn.ntmps) (hlv : lv.all (fun j => Nat.blt j as.length) = true) :
    Ok P n0 c Q ⟨as ++ List.replicate (fn.ntmps - as.length) V.un, m⟩ :=
  h (as ++ List.replicate (fn.ntmps - as.length) V.un) (by simp; omega) (by
    unfold pick
    apply List.map_congr_left
    intro j hj
    have hj := bltT.1 (List.all_eq_true.1 hlv j hj)
    simp only [List.getD_eq_getElem?_getD, List.getElem?_append_left hj])
/-- A callee whose end is told. -/
theorem gens_okl {f : FuncId} {fn : Func} (hf : P.funcs[f]? = some fn) (hb : fn.body.isSome = true) (hn : (fn.name == "runtime.NumGoroutine") = false)
    {gs own : List Nat} {vs m as ro : List V} (hv : viewO gs own vs m = some (as, ro)) {K0 : V → List V → Prop} {T : Told → Prop} (hT : ∀ v m', K0 v m' → ∃ t, T t ∧ toldIn gs.length own.length t v m') {n0 : Nat} {lv : List Nat}
    (h : OkL P n0 fn.ntmps lv (body fn) (ends P fn K0) (pick lv as) ro) (hlen : as.length ≤ fn.ntmps) (hlv : lv.all (fun j => Nat.blt j as.length) = true) (h0 : n0 = ro.length) {K : V → List V → Prop}
    (hK : ∀ t, T t → K (backV own t m) (backM own t m)) : CallsG P f vs m K := by
  intro C μ w hB hm
  obtain ⟨c, hc⟩ := Option.isSome_iff_exists.1 hb
  have hbody : body fn = c := by simp [body, hc]
  rw [hbody] at h
  subst h0
  refine ⟨callFunc_body hf hc hn _ w, frames_ok hv hB hm (T := T) (fun ν C' hB' hr hC ha => ?_) hK⟩
  exact (calls_of_ok hf hc hB' hC hr ha (ok_start h hlen hlv)).mono fun e w' ⟨v, m', μ1, val, hk, h2⟩ => ⟨v, m', μ1, val, hT _ _ hk, h2⟩
/-- A callee that reads what it is handed, and answers a plain value. -/
theorem reads_okl {f : FuncId} {fn : Func} (hf : P.funcs[f]? = some fn) (hb : fn.body.isSome = true) (hn : (fn.name == "runtime.NumGoroutine") = false)
    {gs : List Nat} {vs m as ro : List V} (hv : views gs vs m = some (as, ro)) {r : V} (hr : r.flat = true) {n0 : Nat} {lv : List Nat}
    (h : OkL P n0 fn.ntmps lv (body fn) (ends P fn fun v _ => okV r v) (pick lv as) ro) (hlen : as.length ≤ fn.ntmps) (hlv : lv.all (fun j => Nat.blt j as.length) = true) (h0 : n0 = ro.length) :
    ∀ μ B w0 w, Under B w0 → Rel μ B w0 m w → PureAt P f (vs.map (V.den μ)).toArray (r.den μ) w := by
  obtain ⟨c, hc⟩ := Option.isSome_iff_exists.1 hb
  have hbody : body fn = c := by simp [body, hc]
  rw [hbody] at h
  subst h0
  exact reads_at (fun args w => callFunc_body hf hc hn args w) hv hr fun ν C w hB hm hC vals hargs => calls_of_ok hf hc hB hC hm hargs (ok_start h hlen hlv)
/-- The ends of a callee that answers a plain value, or a value that names one new block. -/
def out0 (O1 : V → Prop) (O2 : (Nat → V) → V → Prop) (v : V) (m : List V) : Prop := O1 v ∨ ∃ id res c, O2 res c ∧ v = res id ∧ m[id]? = some c
def Names (res : Nat → V) : Prop := (∀ (μ μ' : Mu) (i i' : Nat), μ i = μ' i' → (res i).den μ = (res i').den μ') ∧ ∀ (ρ : Nat → Nat) (i : Nat), (res i).ren ρ = res (ρ i)
def Plain (c : V) : Prop := roOf c = none ∧ (∀ μ ν, c.den μ = c.den ν) ∧ ∀ ρ, c.ren ρ = c
theorem plain_bools (n : Nat) (f : Nat → Bool) : Plain (.bools n f) := ⟨rfl, fun μ ν => by simp [V.den], fun ρ => rfl⟩
theorem plain_ints (k : IntKind) (n : Nat) (f : Nat → Int) : Plain (.ints k n f) := ⟨rfl, fun μ ν => by simp [V.den], fun ρ => rfl⟩
theorem outs_okl {f : FuncId} {fn : Func} (hf : P.funcs[f]? = some fn) (hb : fn.body.isSome = true) (hn : (fn.name == "runtime.NumGoroutine") = false)
    {gs : List Nat} {vs m as ro : List V} (hv : views gs vs m = some (as, ro)) {O1 : V → Prop} {O2 : (Nat → V) → V → Prop} (h1 : ∀ r, O1 r → r.flat = true ∧ ∀ ρ, r.ren ρ = r) (h2 : ∀ res c, O2 res c → Names res ∧ Plain c) {n0 : Nat} {lv : List Nat}
    (h : OkL P n0 fn.ntmps lv (body fn) (ends P fn (out0 O1 O2)) (pick lv as) ro) (hlen : as.length ≤ fn.ntmps) (hlv : lv.all (fun j => Nat.blt j as.length) = true) (h0 : n0 = ro.length) {K : V → List V → Prop}
    (hK1 : ∀ r, O1 r → K r m) (hK2 : ∀ res c, O2 res c → K (res m.length) (m ++ [c])) : CallsG P f vs m K := by
  refine gens_okl (own := []) hf hb hn hv (T := fun t => (∃ r, O1 r ∧ t = ⟨r, [], []⟩) ∨ ∃ res c, O2 res c ∧ t = ⟨res 0, [], [c]⟩) (fun v m' hk => ?_) h hlen hlv h0 (fun t ht => ?_)
  · rcases hk with hk | ⟨id, res, c, hk, rfl, hm⟩
    · exact ⟨_, .inl ⟨v, hk, rfl⟩, flat_told (h1 v hk).1⟩
    · obtain ⟨⟨n1, n2⟩, p1, p2, p3⟩ := h2 res c hk
      refine ⟨_, .inr ⟨res, c, hk, rfl⟩, [id], rfl, by simp, fun i _ p hp => by simp at hp, rfl, fun ν κ _ hk => ⟨?_, fun j c hc => by simp at hc, fun j c' i hc hi => ?_⟩⟩
      · exact n1 ν κ id 0 (by have := hk 0 id rfl; simpa using this.symm)
      · cases j with
        | zero =>
          simp only [List.getElem?_cons_zero, Option.some.injEq] at hc hi
          subst hc hi
          exact ⟨p1, _, hm, p1, p2 ν κ⟩
        | succ j => simp at hi
  · rcases ht with ⟨r, hk, rfl⟩ | ⟨res, c, hk, rfl⟩
    · exact flat_back (h1 r hk).2 (hK1 r hk)
    · obtain ⟨⟨n1, n2⟩, p1, p2, p3⟩ := h2 res c hk
      have e1 : backV [] ⟨res 0, [], [c]⟩ m = res m.length := by
        unfold backV
        rw [n2]
        congr 1
      have e2 : backM [] ⟨res 0, [], [c]⟩ m = m ++ [c] := by
        simp [backM, setO, p3]
      rw [e1, e2]
      exact hK2 res c hk
/-- The ends of a callee that answers a plain value and may write the block that it is handed. -/
def outW (g : Nat) (O : V → V → Prop) (v : V) (m : List V) : Prop := ∃ c, O v c ∧ m[g]? = some c
theorem outW_okl {f : FuncId} {fn : Func} (hf : P.funcs[f]? = some fn) (hb : fn.body.isSome = true) (hn : (fn.name == "runtime.NumGoroutine") = false)
    {own : Nat} {vs m as ro : List V} (hv : viewO [] [own] vs m = some (as, ro)) {O : V → V → Prop} (h1 : ∀ r c, O r c → (r.flat = true ∧ ∀ ρ, r.ren ρ = r) ∧ Plain c) {n0 : Nat} {lv : List Nat}
    (h : OkL P n0 fn.ntmps lv (body fn) (ends P fn (outW 0 O)) (pick lv as) ro) (hlen : as.length ≤ fn.ntmps) (hlv : lv.all (fun j => Nat.blt j as.length) = true) (h0 : n0 = ro.length) {K : V → List V → Prop}
    (hK : ∀ r c, O r c → K r (m.set own c)) : CallsG P f vs m K := by
  refine gens_okl (own := [own]) hf hb hn hv (T := fun t => ∃ r c, O r c ∧ t = ⟨r, [c], []⟩) (fun v m' hk => ?_) h hlen hlv h0 (fun t ht => ?_)
  · obtain ⟨c, hk, hm⟩ := hk
    obtain ⟨⟨f1, f2⟩, p1, p2, p3⟩ := h1 v c hk
    refine ⟨_, ⟨v, c, hk, rfl⟩, [], rfl, List.nodup_nil, (fun i hi => by cases hi), rfl, fun ν κ hk _ => ⟨flat_den f1 κ ν, fun j c' hc => ?_, fun j c i hc _ => by simp at hc⟩⟩
    cases j with
    | zero =>
      simp only [List.getElem?_cons_zero, Option.some.injEq] at hc
      subst hc
      exact ⟨p1, _, hm, p1, p2 ν κ⟩
    | succ j => simp at hc
  · obtain ⟨r, c, hk, rfl⟩ := ht
    obtain ⟨⟨f1, f2⟩, p1, p2, p3⟩ := h1 r c hk
    have e1 : backV [own] ⟨r, [c], []⟩ m = r := f2 _
    have e2 : backM [own] ⟨r, [c], []⟩ m = m.set own c := by
      simp [backM, setO, p3]
    rw [e1, e2]
    exact hK r c hk
end
end Go.Ev
