/-
  A law's call whose arguments hold slices: what stands in the arguments' memory is seen through windows. Conditions: none.
-/
import Derived.Test.YtbnclikjbnfodaaFvP
import Derived.Test.YtbnclikjbnfodaaFvJ
import Derived.ChangeArms
import Derived.ChangeSame
import Derived.ChangeOld
import Derived.Carry
import Derived.SizedLaws
namespace Go.Ev
open Go.RowKit Go.ChangeShapes Go.WideShapes Go.ChangeAt

/-- Windows: block, offset, content. -/
def memW (ws : List (Nat × Nat × V)) : List V := ws.map fun p => .tup [p.2.2]
def muW (ws : List (Nat × Nat × V)) : Mu := fun i => ((ws.getD i (0, 0, V.un)).1, (ws.getD i (0, 0, V.un)).2.1)
def Seen (W : World) (b o : Nat) (u : V) : Prop := u.flat = true ∧ roOf (.tup [u]) = some u ∧ tagOf (.tup [u]) = none ∧ b < W.heap.size ∧ ∀ (j : Nat) (c : Value), (u.den z0).cells[j]? = some c → W.cell? ⟨b, o + j, none⟩ = some c
theorem rel_windows {W : World} {ws : List (Nat × Nat × V)} (h : ∀ b o u, (b, o, u) ∈ ws → Seen W b o u) :
    RelM ⟨lowB W.heap.size, W, ws.length, muW ws⟩ (muW ws) (memW ws) W := by
  refine ⟨fun μ' hμ => ?_, Agree.refl _ _, by simp [memW]⟩
  have hold : ∀ id v, (memW ws)[id]? = some v → Held μ' (lowB W.heap.size) W id v := by
    intro id v hv
    unfold memW at hv
    rw [List.getElem?_map, Option.map_eq_some_iff] at hv
    obtain ⟨⟨b, o, u⟩, hp, rfl⟩ := hv
    have hid := (List.getElem?_eq_some_iff.1 hp).1
    have hm : μ' id = (b, o) := by
      rw [hμ id (by simpa [memW] using hid)]
      simp [muW, List.getD_eq_getElem?_getD, hp]
    obtain ⟨hf, hr, ht, h1, h2⟩ := h b o u (List.mem_of_getElem? hp)
    unfold Held
    simp only at hr ht ⊢
    rw [hr]
    show lowB W.heap.size (μ' id).1 ∧ (μ' id).1 < W.heap.size ∧ _
    rw [hm]
    refine ⟨h1, h1, fun g' hg' => ?_, fun j c hc => ?_⟩
    · rw [ht] at hg'; cases hg'
    · rw [flat_den hf z0 μ'] at hc
      exact h2 j c hc
  refine ⟨Keeps.refl _ _, hold, fun i j hi hj hb e => ?_⟩
  exact absurd (show lowB W.heap.size (μ' i).1 from (hold i _ (List.getElem?_eq_getElem hi)).lt) hb

section
variable {P : Program} {F : Orc} {G : GOrc}
/-- A law's call. -/
theorem law_callsW (hM : P.follows .mixedOrders = true) (hF : OrcOK P F) (hG : GOrcOK P G) {N : Nat} {f : FuncId} {fn : Func} (hf : P.funcs[f]? = some fn) (hb : fn.body.isSome = true) {ws : List (Nat × Nat × V)} {args : List V} {W : World}
    (hl : ∀ b o u, (b, o, u) ∈ ws → Seen W b o u) {vals : Array Value} (ha : ∀ μ', Agree (memW ws).length (muW ws) μ' → vals = (args.map (V.den μ')).toArray) {n : Nat}
    (h : awp P F G N (body fn) (ends P fn fun v _ => okV (V.bool true) v) ⟨args ++ List.replicate n V.un, memW ws⟩) (hn : n = fn.ntmps - args.length) :
    Calls P f vals W fun e W' => e = .returned (.bool true) ∧ Below W.heap.size W W' := by
  obtain ⟨c, hc⟩ := Option.isSome_iff_exists.1 hb
  have hbody : body fn = c := by simp [body, hc]
  rw [hbody] at h
  subst hn
  refine (calls_of_awp (C := ⟨lowB W.heap.size, W, ws.length, muW ws⟩) hM hF hG hf hc (under_low (Nat.le_refl _)) (rel_windows hl) ha h).mono fun e w' ⟨v, m', μ1, val, hK, he, hrm, hval⟩ => ?_
  have e1 := hval μ1 (Agree.refl _ _)
  unfold okV at hK
  split at hK
  · rename_i hfl
    rw [flat_den hfl z0 μ1, hK] at e1
    subst e1
    exact ⟨he, (hrm.all μ1 (Agree.refl _ _)).below.below⟩
  · exact hK.elim
/-- The same; blocks may be forgotten at the heads of its loops. -/
theorem law_callsQ (hM : P.follows .mixedOrders = true) (hF : OrcOK P F) (hG : GOrcOK P G) {N : Nat} {f : FuncId} {fn : Func} (hf : P.funcs[f]? = some fn) (hb : fn.body.isSome = true) {ws : List (Nat × Nat × V)} {args : List V} {W : World}
    (hl : ∀ b o u, (b, o, u) ∈ ws → Seen W b o u) {vals : Array Value} (ha : ∀ μ', Agree (memW ws).length (muW ws) μ' → vals = (args.map (V.den μ')).toArray) {n : Nat}
    (h : awq P F G ws.length N (body fn) (ends P fn fun v _ => okV (V.bool true) v) ⟨args ++ List.replicate n V.un, memW ws⟩) (hn : n = fn.ntmps - args.length) :
    Calls P f vals W fun e W' => e = .returned (.bool true) ∧ Below W.heap.size W W' := by
  obtain ⟨c, hc⟩ := Option.isSome_iff_exists.1 hb
  have hbody : body fn = c := by simp [body, hc]
  rw [hbody] at h
  subst hn
  refine (calls_of_awq (C := ⟨lowB W.heap.size, W, ws.length, muW ws⟩) hM hF hG hf hc (under_low (Nat.le_refl _)) rfl (rel_windows hl) ha h).mono fun e w' ⟨v, m', μ1, val, hK, he, hrm, hval⟩ => ?_
  have e1 := hval μ1 (Agree.refl _ _)
  unfold okV at hK
  split at hK
  · rename_i hfl
    rw [flat_den hfl z0 μ1, hK] at e1
    subst e1
    exact ⟨he, (hrm.all μ1 (Agree.refl _ _)).below.below⟩
  · exact hK.elim
end

theorem seen_ints {W : World} {b o n : Nat} {k : IntKind} {f : Nat → Int} (hb : b < W.heap.size) (h : ∀ j, j < n → W.cell? ⟨b, o + j, none⟩ = some (.int k (f j))) : Seen W b o (V.ints k n f) := by
  refine ⟨rfl, rfl, rfl, hb, fun j c hc => ?_⟩
  rw [cells_ints] at hc
  simp only [List.getElem?_toArray, List.getElem?_map, Option.map_eq_some_iff] at hc
  obtain ⟨i, hi, rfl⟩ := hc
  obtain ⟨h1, h2⟩ := List.getElem?_eq_some_iff.1 hi
  simp at h1 h2
  subst h2
  exact h j h1
theorem seen_bools {W : World} {b o n : Nat} {f : Nat → Bool} (hb : b < W.heap.size) (h : ∀ j, j < n → W.cell? ⟨b, o + j, none⟩ = some (.bool (f j))) : Seen W b o (V.bools n f) := by
  refine ⟨rfl, rfl, rfl, hb, fun j c hc => ?_⟩
  rw [cells_bools] at hc
  simp only [List.getElem?_toArray, List.getElem?_map, Option.map_eq_some_iff] at hc
  obtain ⟨i, hi, rfl⟩ := hc
  obtain ⟨h1, h2⟩ := List.getElem?_eq_some_iff.1 hi
  simp at h1 h2
  subst h2
  exact h j h1

section
variable {H : Type} {enc : TypeId × Value → H} {P : Program} {w : World} {base : Nat} {held : Bool}
theorem add_none {a : Addr} (h : a.spot = none) (n : Nat) : a.add n = ⟨a.block, a.off + n, none⟩ := by
  obtain ⟨b, o, s⟩ := a
  simp only at h
  subst h
  unfold Addr.add
  split
  · rename_i h0; subst h0; rfl
  · rfl
theorem cells_hold {b : Nat} {l : List Value} {a : Addr} {n : Nat} (h : w.cells? base a n = some l) (hs : a.spot = none) (ha : a.block = b) : ∀ j v, l[j]? = some v → w.cell? ⟨b, a.off + j, none⟩ = some v := by
  intro j v hv
  obtain ⟨_, h2, h3⟩ := World.cells?_some h
  have := h3 j (by rw [← h2]; exact (List.getElem?_eq_some_iff.1 hv).1)
  rw [hv] at this
  rw [← this, add_none hs, ha]

/-- The elements of a slice's whole room, as the reading gives them. -/
def Rows (enc : TypeId × Value → H) (P : Program) (w : World) (base : Nat) (held : Bool) (e : TypeId) (b o c : Nat) : Prop := ∀ i, i < c → ∃ n l y, DataW.trod enc P w base (fun _ => true) held n e l = some y ∧ l.length = P.cellsOf e ∧ ∀ j v, l[j]? = some v → w.cell? ⟨b, o + i * P.cellsOf e + j, none⟩ = some v
theorem rows_cells {t e : TypeId} {cs : List Value} {fuel : Nat} {x : DataW H × List MemPlace} (ht : P.underlying t = some (.slice e)) (h : DataW.trod enc P w base (fun _ => true) held fuel t cs = some x) :
    cs = [.slice none 0 0] ∨ ∃ (a : Addr) (k c : Nat), cs = [.slice (some a) k c] ∧ k ≤ c ∧ (∃ el sp, x.1 = .slice el sp ∧ el.length + sp.length = c) ∧ (a.spot = none → Rows enc P w base held e a.block a.off c) := by
  rcases DataW.trod_slice ht h with ⟨h0, _⟩ | ⟨a, len, cap, elems, rest, n, _, rfl, rfl, hb, hl, hm, hlen, hel, hsp, _⟩
  · exact .inl h0
  obtain ⟨hrl, hr⟩ := hsp rfl
  refine .inr ⟨a, len, cap, rfl, hl, ⟨_, _, rfl, by simp; omega⟩, fun hspot i hi => ?_⟩
  have hb' : ∃ y, (w.cells? base (a.add (i * P.cellsOf e)) (P.cellsOf e)).bind (DataW.trod enc P w base (fun _ => true) held n e) = some y := by
    by_cases hi' : i < len
    · rw [hel i hi']; exact ⟨elems[i], List.getElem?_eq_getElem (by omega)⟩
    · have := hr (i - len) (by omega)
      rw [show len + (i - len) = i by omega] at this
      rw [this]; exact ⟨rest[i - len], List.getElem?_eq_getElem (by omega)⟩
  obtain ⟨y, hy⟩ := hb'
  rw [Option.bind_eq_some_iff] at hy
  obtain ⟨l, h1, h2⟩ := hy
  refine ⟨n, l, y, h2, (World.cells?_some h1).2.1, fun j v hv => ?_⟩
  rw [add_none hspot] at h1
  exact cells_hold (b := a.block) h1 rfl rfl j v hv
theorem open_rows {r : Reach} {b0 : Nat} {t e : TypeId} {v : Value} {d : DataW H} {p : List MemPlace} (ht : P.underlying t = some (.slice e)) (hv : Value.okWide P w r b0 t v) (h : DataW.Trod enc P w base (fun _ => true) held t v d p) :
    v = .slice none 0 0 ∨ ∃ b o k c, v = .slice (some ⟨b, o, none⟩) k c ∧ b < w.heap.size ∧ k ≤ c ∧ (∃ el sp, d = .slice el sp ∧ el.length + sp.length = c) ∧ Rows enc P w base held e b o c := by
  obtain ⟨fuel, hf⟩ := h
  unfold Value.okWide at hv
  rw [ht] at hv
  simp only at hv
  have hcell : ∀ x, v.cells.toList = [x] → v = x := by
    intro x hx
    cases v <;> simp_all [Value.cells, Cell.okWide, Cell.ok]
  rcases rows_cells ht hf with h0 | ⟨a, k, c, h0, hk, hc, hR⟩
  · exact .inl (hcell _ h0)
  · have e0 := hcell _ h0
    subst e0
    unfold Cell.okWide at hv
    simp only [ht] at hv
    unfold Cell.ok at hv
    simp only [ht] at hv
    obtain ⟨_, _, _, hs, row, cells, hsh, _⟩ := hv
    have hb : a.block < w.heap.size := by
      unfold World.shape? at hsh
      cases hh : w.heap[a.block]? with
      | none => rw [hh] at hsh; cases hsh
      | some _ => exact (Array.getElem?_eq_some_iff.1 hh).1
    obtain ⟨b, o, s⟩ := a
    simp only at hs hb hR
    subst hs
    exact .inr ⟨b, o, k, c, rfl, hb, hk, hc, hR rfl⟩
/-- A slice whose elements are integers. -/
theorem rows_ints {e : TypeId} {k : IntKind} {b o c : Nat} (he : P.underlying e = some (.int k)) (hc : P.cellsOf e = 1) (h : Rows enc P w base held e b o c) : ∃ f : Nat → Int, ∀ j, j < c → w.cell? ⟨b, o + j, none⟩ = some (.int k (f j)) := by
  have h1 : ∀ j, ∃ q, j < c → w.cell? ⟨b, o + j, none⟩ = some (.int k q) := by
    intro j
    by_cases hj : j < c
    · obtain ⟨n, l, y, h2, _, h4⟩ := h j hj
      obtain ⟨q, rfl, _⟩ := DataW.trod_int he h2
      exact ⟨q, fun _ => by have := h4 0 _ rfl; simpa [hc] using this⟩
    · exact ⟨0, fun hj' => absurd hj' hj⟩
  exact ⟨fun j => (h1 j).choose, fun j hj => (h1 j).choose_spec hj⟩
theorem rows_bools {e : TypeId} {b o c : Nat} (he : P.underlying e = some .bool) (hc : P.cellsOf e = 1) (h : Rows enc P w base held e b o c) : ∃ f : Nat → Bool, ∀ j, j < c → w.cell? ⟨b, o + j, none⟩ = some (.bool (f j)) := by
  have h1 : ∀ j, ∃ q, j < c → w.cell? ⟨b, o + j, none⟩ = some (.bool q) := by
    intro j
    by_cases hj : j < c
    · obtain ⟨n, l, y, h2, _, h4⟩ := h j hj
      obtain ⟨q, rfl, _⟩ := DataW.trod_bool he h2
      exact ⟨q, fun _ => by have := h4 0 _ rfl; simpa [hc] using this⟩
    · exact ⟨false, fun hj' => absurd hj' hj⟩
  exact ⟨fun j => (h1 j).choose, fun j hj => (h1 j).choose_spec hj⟩
/-- A slice whose elements are pairs of integers. -/
theorem rows_pairs {e : TypeId} {f0 f1 : Field} {k : IntKind} {b o c : Nat} (he : P.underlying e = some (.struct #[f0, f1])) (h0 : P.underlying f0.type = some (.int k)) (h1 : P.underlying f1.type = some (.int k)) (ho : f0.offset = 0 ∧ f1.offset = 1 ∧ P.cellsOf f0.type = 1 ∧ P.cellsOf f1.type = 1) (hc : P.cellsOf e = 2)
    (h : Rows enc P w base held e b o c) : ∃ f : Nat → Int, ∀ j, j < 2 * c → w.cell? ⟨b, o + j, none⟩ = some (.int k (f j)) := by
  have h1 : ∀ j, ∃ q, j < 2 * c → w.cell? ⟨b, o + j, none⟩ = some (.int k q) := by
    intro j
    by_cases hj : j < 2 * c
    · obtain ⟨n, l, y, h2, h3, h4⟩ := h (j / 2) (by omega)
      obtain ⟨y0, y1, n', _, hl, e1, e2⟩ := trod_struct2 he h2
      rw [ho.1, ho.2.2.1] at e1
      rw [ho.2.1, ho.2.2.2] at e2
      obtain ⟨q0, a1, _⟩ := DataW.trod_int h0 e1
      obtain ⟨q1, a2, _⟩ := DataW.trod_int h1 e2
      rw [hc] at h4
      rw [hc] at h3
      obtain ⟨x0, x1, rfl⟩ : ∃ x0 x1, l = [x0, x1] := by
        match l, h3 with
        | [x0, x1], _ => exact ⟨x0, x1, rfl⟩
      simp at a1 a2
      subst a1 a2
      rcases Nat.mod_two_eq_zero_or_one j with hz | hz
      · refine ⟨q0, fun _ => ?_⟩
        have := h4 0 _ rfl
        rw [show o + j / 2 * 2 + 0 = o + j by omega] at this
        exact this
      · refine ⟨q1, fun _ => ?_⟩
        have := h4 1 _ rfl
        rw [show o + j / 2 * 2 + 1 = o + j by omega] at this
        exact this
    · exact ⟨0, fun hj' => absurd hj' hj⟩
  exact ⟨fun j => (h1 j).choose, fun j hj => (h1 j).choose_spec hj⟩
end
end Go.Ev
namespace Go.Ev
theorem seen_nil {W : World} : ∀ b o u, (b, o, u) ∈ ([] : List (Nat × Nat × V)) → Seen W b o u := fun _ _ _ h => by cases h
theorem seen_cons {W : World} {b o : Nat} {u : V} {ws : List (Nat × Nat × V)} (h : Seen W b o u) (hl : ∀ b o u, (b, o, u) ∈ ws → Seen W b o u) : ∀ b' o' u', (b', o', u') ∈ (b, o, u) :: ws → Seen W b' o' u' := fun b' o' u' hm => by
  rcases List.mem_cons.1 hm with e | hm
  · cases e; exact h
  · exact hl _ _ _ hm
end Go.Ev
