/-
  A call whose callee runs in a small memory of its own, seen by the caller. Conditions: none.
-/
import Derived.Test.YtbnclikjbnfodaaFvK
namespace Go.Ev
open RowKit (Below)

/-- What a callee leaves. Names: 0 .. : the blocks that it was given to write, in order; behind them the new blocks that are told. -/
structure Told where
  r : V
  own : List V
  new : List V

/-- The callee's own state at its end is as told: ids: where the told new blocks stand. -/
def toldIn (g o : Nat) (t : Told) (v : V) (m : List V) : Prop :=
  ∃ ids : List Nat, ids.length = t.new.length ∧ ids.Nodup ∧ (∀ i ∈ ids, ∀ p, p < o → i ≠ g + p) ∧ t.own.length = o ∧
    ∀ ν κ : Mu, (∀ j, j < o → κ j = ν (g + j)) → (∀ (j i : Nat), ids[j]? = some i → κ (o + j) = ν i) →
      v.den ν = t.r.den κ ∧
      (∀ (j : Nat) (c : V), t.own[j]? = some c → roOf c = none ∧ ∃ d, m[g + j]? = some d ∧ roOf d = none ∧ (d.den ν) = c.den κ) ∧
      (∀ (j : Nat) (c : V) (i : Nat), t.new[j]? = some c → ids[j]? = some i → roOf c = none ∧ ∃ d, m[i]? = some d ∧ roOf d = none ∧ (d.den ν) = c.den κ)

def setO : List V → List Nat → List V → List V
  | m, id :: ids, c :: cs => setO (m.set id c) ids cs
  | m, _, _ => m
theorem setO_length : ∀ {ids : List Nat} {cs : List V} {m : List V}, (setO m ids cs).length = m.length
  | [], _, _ => by simp [setO]
  | _ :: _, [], _ => by simp [setO]
  | id :: ids, c :: cs, m => by rw [setO, setO_length]; simp
theorem setO_out : ∀ {ids : List Nat} {cs : List V} {m : List V} {i : Nat}, i ∉ ids → (setO m ids cs)[i]? = m[i]?
  | [], _, _, _, _ => by simp [setO]
  | _ :: _, [], _, _, _ => by simp [setO]
  | id :: ids, c :: cs, m, i, h => by
    rw [setO, setO_out (fun hm => h (List.mem_cons_of_mem _ hm)), List.getElem?_set_ne]
    exact fun e => h (e ▸ List.mem_cons_self)
theorem setO_in : ∀ {ids : List Nat} {cs : List V} {m : List V} {p i : Nat}, ids.Nodup → ids[p]? = some i → i < m.length → p < cs.length → (setO m ids cs)[i]? = cs[p]?
  | [], _, _, _, _, _, h, _, _ => by simp at h
  | _ :: _, [], _, _, _, _, _, _, h => by simp at h
  | id :: ids, c :: cs, m, p, i, hn, hp, hi, hc => by
    obtain ⟨h1, h2⟩ := List.nodup_cons.1 hn
    rw [setO]
    cases p with
    | zero =>
      simp only [List.getElem?_cons_zero, Option.some.injEq] at hp
      subst hp
      rw [setO_out h1, List.getElem?_set_self hi]
      simp
    | succ p =>
      simp only [List.getElem?_cons_succ] at hp ⊢
      exact setO_in h2 hp (by simpa using hi) (by simpa using hc)

/-- How the caller names what is told. -/
def rhoO (own : List Nat) (n : Nat) (j : Nat) : Nat := match Nat.blt j own.length with | true => own.getD j 0 | false => n + (j - own.length)
def backM (own : List Nat) (t : Told) (m : List V) : List V := setO m own (t.own.map (V.ren (rhoO own m.length))) ++ t.new.map (V.ren (rhoO own m.length))
def backV (own : List Nat) (t : Told) (m : List V) : V := t.r.ren (rhoO own m.length)

section
variable {P : Program}

/-- The call, as the caller sees it. -/
theorem frames_ok {f : FuncId} {gs own : List Nat} {vs m as mem0 : List V} (hv : viewO gs own vs m = some (as, mem0)) {μ : Mu} {w : World} {C : Ctx} (hB : Under C.B C.w0) (hm : RelM C μ m w) {T : Told → Prop}
    (h : ∀ (ν : Mu) (C' : Ctx), Under C'.B C'.w0 → RelM C' ν mem0 w → C'.n0 = mem0.length → (∀ ν', Agree mem0.length ν ν' → (vs.map (V.den μ)).toArray = (as.map (V.den ν')).toArray) →
      Calls P f (vs.map (V.den μ)).toArray w fun e w' => ∃ v m' μ1 val, (∃ t, T t ∧ toldIn gs.length own.length t v m') ∧ e = .returned val ∧ RelM C' μ1 m' w' ∧ ∀ μ', Agree m'.length μ1 μ' → val = v.den μ') {K : V → List V → Prop}
    (hK : ∀ t, T t → K (backV own t m) (backM own t m)) :
    Calls P f (vs.map (V.den μ)).toArray w fun e w' => ∃ v m' μ1 val, K v m' ∧ e = .returned val ∧ m.length ≤ m'.length ∧ Agree m.length μ μ1 ∧ RelM C μ1 m' w' ∧ ∀ μ', Agree m'.length μ1 μ' → val = v.den μ' := by
  have hrel := hm.all μ (Agree.refl _ _)
  obtain ⟨ν, hmv, hown, hlen0, hnd, ⟨cs, hcs⟩, hargs⟩ := view_mem hrel hv
  obtain ⟨c1, c2⟩ := ownC_spec hcs
  refine (h ν ⟨offB μ own w, w, mem0.length, ν⟩ (off_under μ own w) hmv rfl hargs).mono fun e w' ⟨v, m', μ1, val, ⟨t, hT, ids, hidl, hidn, hidg, hol, htold⟩, he, hrm, hval⟩ => ?_
  have hr1 := hrm.all μ1 (Agree.refl _ _)
  have hext : Agree mem0.length ν μ1 := hrm.ext
  have hkeep : Keeps (offB μ own w) w w' := hr1.below
  let κ : Mu := fun j => if j < own.length then μ1 (gs.length + j) else μ1 (ids.getD (j - own.length) 0)
  have hk1 : ∀ j, j < own.length → κ j = μ1 (gs.length + j) := fun j hj => by show (if _ then _ else _) = _; rw [if_pos hj]
  have hk2 : ∀ (j i : Nat), ids[j]? = some i → κ (own.length + j) = μ1 i := fun j i hj => by
    show (if _ then _ else _) = _
    rw [if_neg (by omega), show own.length + j - own.length = j by omega, List.getD_eq_getElem?_getD, hj]; rfl
  obtain ⟨hvd, howd, hnewd⟩ := htold μ1 κ hk1 hk2
  -- where the told new blocks stand
  have hnew : ∀ (j i : Nat), ids[j]? = some i → w.heap.size ≤ (μ1 i).1 ∧ i < m'.length := by
    intro j i hj
    have hjl := (List.getElem?_eq_some_iff.1 hj).1
    obtain ⟨_, d, hd, hdr, _⟩ := hnewd j t.new[j] i (List.getElem?_eq_getElem (by omega)) hj
    have hi := (List.getElem?_eq_some_iff.1 hd).1
    refine ⟨?_, hi⟩
    have ho := ((hr1.hold i d hd).own hdr).1
    rcases Nat.lt_or_ge (μ1 i).1 w.heap.size with hlt | hge
    · exfalso
      refine ho ⟨hlt, fun id hid e => ?_⟩
      obtain ⟨p, hp⟩ := List.getElem?_of_mem hid
      have hpl := (List.getElem?_eq_some_iff.1 hp).1
      have e2 : μ1 (gs.length + p) = μ id := by rw [hext _ (by omega), hown p id hp]
      have := hr1.inj i (gs.length + p) hi (Nat.lt_of_lt_of_le (show gs.length + p < mem0.length by omega) hrm.len) ho (by rw [e, e2])
      exact hidg i (List.mem_of_getElem? hj) p hpl this
    · exact hge
  let μ2 : Mu := fun j => if j < m.length then μ j else μ1 (ids.getD (j - m.length) 0)
  have hag : Agree m.length μ μ2 := fun j hj => by show (if _ then _ else _) = _; rw [if_pos hj]
  have h2n : ∀ (j i : Nat), ids[j]? = some i → μ2 (m.length + j) = μ1 i := fun j i hj => by
    show (if _ then _ else _) = _
    rw [if_neg (by omega), show m.length + j - m.length = j by omega, List.getD_eq_getElem?_getD, hj]; rfl
  have hml : (backM own t m).length = m.length + ids.length := by unfold backM; rw [List.length_append, setO_length, List.length_map, hidl]
  -- what is told reads alike under both namings
  have hren : ∀ μ3 : Mu, Agree (backM own t m).length μ2 μ3 → ∀ j, j < own.length + ids.length → μ3 (rhoO own m.length j) = κ j := by
    intro μ3 h3 j hj
    unfold rhoO
    by_cases hjo : j < own.length
    · rw [bltT.2 hjo]
      have hp : own[j]? = some own[j] := List.getElem?_eq_getElem hjo
      obtain ⟨c, m1, _, _⟩ := c2 j _ hp
      have hl := (List.getElem?_eq_some_iff.1 m1).1
      have e1 : own.getD j 0 = own[j] := by simp [List.getD_eq_getElem?_getD, hjo]
      rw [hk1 j hjo, hext _ (by omega), hown j _ hp]
      dsimp only
      rw [e1, h3 _ (by omega), hag _ hl]
    · rw [ff bltT hjo]
      dsimp only
      have hid : ids[j - own.length]? = some ids[j - own.length] := List.getElem?_eq_getElem (by omega)
      rw [h3 _ (by omega), h2n _ _ hid]
      have := hk2 _ _ hid
      rw [show own.length + (j - own.length) = j by omega] at this
      exact this.symm
  -- only names below own.length + ids.length matter: a naming that agrees everywhere
  have hden : ∀ (μ3 : Mu), Agree (backM own t m).length μ2 μ3 → (val = (backV own t m).den μ3) ∧
      (∀ (j : Nat) (c : V), t.own[j]? = some c → roOf c = none ∧ ∃ d, m'[gs.length + j]? = some d ∧ roOf d = none ∧ d.den μ1 = (c.ren (rhoO own m.length)).den μ3) ∧
      (∀ (j : Nat) (c : V) (i : Nat), t.new[j]? = some c → ids[j]? = some i → roOf c = none ∧ ∃ d, m'[i]? = some d ∧ roOf d = none ∧ d.den μ1 = (c.ren (rhoO own m.length)).den μ3) := by
    intro μ3 h3
    have h4 := hren μ3 h3
    obtain ⟨a1, a2, a3⟩ := htold μ1 (fun j => μ3 (rhoO own m.length j)) (fun j hj => by rw [h4 j (by omega)]; exact hk1 j hj) (fun j i hj => by
      have := (List.getElem?_eq_some_iff.1 hj).1
      rw [h4 _ (by omega)]; exact hk2 j i hj)
    refine ⟨?_, fun j c hc => ?_, fun j c i hc hi => ?_⟩
    · rw [hval μ1 (Agree.refl _ _), a1]
      exact (ren_den _ _ _).symm
    · obtain ⟨r1, d, d1, d2, d3⟩ := a2 j c hc
      exact ⟨r1, d, d1, d2, by rw [d3, ren_den]⟩
    · obtain ⟨r1, d, d1, d2, d3⟩ := a3 j c i hc hi
      exact ⟨r1, d, d1, d2, by rw [d3, ren_den]⟩
  refine ⟨_, _, μ2, val, hK t hT, he, by rw [hml]; omega, hag, ⟨fun μ3 h3 => ?_, hm.ext.trans (hag.mono hm.len), by rw [hml]; have := hm.len; omega⟩, fun μ3 h3 => (hden μ3 h3).1⟩
  have hm3 : Agree m.length μ μ3 := hag.trans (h3.mono (by rw [hml]; omega))
  have hold := hm.all μ3 hm3
  obtain ⟨_, d2, d3⟩ := hden μ3 h3
  have h3n : ∀ (j i : Nat), ids[j]? = some i → μ3 (m.length + j) = μ1 i := by
    intro j i hj
    have := (List.getElem?_eq_some_iff.1 hj).1
    rw [h3 _ (by rw [hml]; omega)]; exact h2n j i hj
  have hsame : ∀ i, i < m.length → μ3 i = μ i := fun i hi => hm3 i hi
  have hoffB : ∀ k, C.B k → offB μ own w k := by
    intro k hk
    refine ⟨hrel.size hB k hk, fun id hid e => ?_⟩
    obtain ⟨p, hp⟩ := List.getElem?_of_mem hid
    obtain ⟨c, m1, m2, _⟩ := c2 p id hp
    exact ((hrel.hold id c m1).own m2).1 (e ▸ hk)
  refine ⟨hold.below.trans (hkeep.mono hoffB), fun i x hx => ?_, fun i j hi hj hb e => ?_⟩
  · unfold backM at hx
    rw [List.getElem?_append, setO_length] at hx
    split at hx
    · rename_i hi
      by_cases hio : i ∈ own
      · obtain ⟨p, hp⟩ := List.getElem?_of_mem hio
        have hpl := (List.getElem?_eq_some_iff.1 hp).1
        have hpo : t.own[p]? = some t.own[p] := List.getElem?_eq_getElem (by omega)
        rw [setO_in hnd hp hi (by simp; omega), List.getElem?_map, hpo] at hx
        simp only [Option.map_some, Option.some.injEq] at hx
        obtain ⟨r1, d, e1, e2, e3⟩ := d2 p _ hpo
        obtain ⟨o1, o2, ty, ht⟩ := (hr1.hold _ d e1).own e2
        have hμ : μ1 (gs.length + p) = μ i := by rw [hext _ (by omega), hown p i hp]
        obtain ⟨c, m1, m2, _⟩ := c2 p i hp
        have ho := ((hrel.hold i c m1).own m2).1
        rw [hμ] at o2 ht
        subst hx
        refine Held.mk (ren_own _ r1) ?_
        rw [hsame i hi]
        exact ⟨ho, o2, ty, by rw [ht, e3]⟩
      · rw [setO_out hio] at hx
        have hh := hold.hold i x hx
        refine hh.keep ?_
        rw [hsame i hi]
        have := hrel.hold i x hx
        exact hkeep.block _ ⟨this.lt, fun id hid => by
          obtain ⟨p, hp⟩ := List.getElem?_of_mem hid
          obtain ⟨c, m1, m2, _⟩ := c2 p id hp
          exact hrel.apart m1 m2 hx (fun e => hio (e ▸ hid))⟩
    · rename_i hi
      rw [List.getElem?_map, Option.map_eq_some_iff] at hx
      obtain ⟨c, hc, rfl⟩ := hx
      have hjl := (List.getElem?_eq_some_iff.1 hc).1
      have hid : ids[i - m.length]? = some ids[i - m.length] := List.getElem?_eq_getElem (by omega)
      obtain ⟨r1, d, e1, e2, e3⟩ := d3 _ c _ hc hid
      obtain ⟨o1, o2, ty, ht⟩ := (hr1.hold _ d e1).own e2
      have hn := h3n _ _ hid
      rw [show m.length + (i - m.length) = i by omega] at hn
      refine Held.mk (ren_own _ r1) ?_
      rw [hn]
      exact ⟨fun hcb => Nat.lt_irrefl _ (Nat.lt_of_lt_of_le (hoffB _ hcb).1 (hnew _ _ hid).1), o2, ty, by rw [ht, e3]⟩
  · rw [hml] at hi hj
    have old : ∀ i, i < m.length → (μ3 i).1 < w.heap.size := fun i hi => by rw [hsame i hi]; exact (hrel.hold i m[i] (List.getElem?_eq_getElem hi)).lt
    have nw : ∀ i, i < m.length + ids.length → ¬ i < m.length → ∃ k, ids[i - m.length]? = some k ∧ μ3 i = μ1 k ∧ w.heap.size ≤ (μ1 k).1 ∧ k < m'.length := by
      intro i hi hn
      have hid : ids[i - m.length]? = some ids[i - m.length] := List.getElem?_eq_getElem (by omega)
      have h1 := h3n _ _ hid
      rw [show m.length + (i - m.length) = i by omega] at h1
      exact ⟨_, hid, h1, hnew _ _ hid⟩
    by_cases h1 : i < m.length
    · by_cases h2 : j < m.length
      · exact hold.inj i j h1 h2 hb e
      · obtain ⟨k, _, k2, k3, _⟩ := nw j hj h2
        have := old i h1
        rw [e, k2] at this; omega
    · obtain ⟨k, k1, k2, k3, k4⟩ := nw i hi h1
      by_cases h2 : j < m.length
      · have := old j h2
        rw [← e, k2] at this; omega
      · obtain ⟨l, l1, l2, l3, l4⟩ := nw j hj h2
        rw [k2, l2] at e
        have hkb : ¬ offB μ own w (μ1 k).1 := fun hh => by have := hh.1; omega
        have := hr1.inj k l k4 l4 hkb e
        subst this
        have a1 := (List.getElem?_eq_some_iff.1 k1)
        have a2 := (List.getElem?_eq_some_iff.1 l1)
        obtain ⟨b1, b2⟩ := a1; obtain ⟨b3, b4⟩ := a2
        have := (List.getElem_inj hidn (h₀ := b1) (h₁ := b3)).1 (b2.trans b4.symm)
        omega
end
end Go.Ev
