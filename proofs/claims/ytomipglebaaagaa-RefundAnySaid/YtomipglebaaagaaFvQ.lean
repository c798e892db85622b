/-
  A law's call whose arguments hold slices: what stands in the arguments' memory is seen through windows. Conditions: none.
-/
import Derived.Test.YtomipglebaaagaaFvP
import Derived.Test.YtomipglebaaagaaFvJ
import Derived.ChangeArms
import Derived.ChangeSame
import Derived.ChangeOld
import Derived.Carry
import Derived.SizedLaws
namespace Go.Ev
open Go.RowKit Go.ChangeShapes Go.WideShapes Go.ChangeAt

/-- Windows: block, offset, content. -/
def memW (ws : List (Nat × Nat × V)) : List V := ws.map fun p => .tup [p.2.2]
def muW (ws : List (Nat × Nat × V)) : Mu := fun i => ((ws.getD i (0, 0, V.un)).1, (ws.getD i (0, 0, V.un)).2.1)
def Seen (W : World) (b o : Nat) (u : V) : Prop := u.flat = true ∧ roOf (.tup [u]) = some u ∧ tagOf (.tup [u]) = none ∧ b < W.heap.size ∧ ∀ (j : Nat) (c : Value), (u.den z0).cells[j]? = some c → W.cell? ⟨b, o + j, none⟩ = some c
theorem rel_windows {W : World} {ws : List (Nat × Nat × V)} (h : ∀ b o u, (b, o, u) ∈ ws → Seen W b o u) :
    RelM ⟨lowB W.heap.size, W, ws.length, muW ws⟩ (muW ws) (memW ws) W := by
  refine ⟨fun μ' hμ => ?_, Agree.refl _ _, by simp [memW]⟩
  have hold : ∀ id v, (memW ws)[id]? = some v → Held μ' (lowB W.heap.size) W id v := by
    intro id v hv
    unfold memW at hv
    rw [List.getElem?_map, Option.map_eq_some_iff] at hv
    obtain ⟨⟨b, o, u⟩, hp, rfl⟩ := hv
    have hid := (List.getElem?_eq_some_iff.1 hp).1
    have hm : μ' id = (b, o) := by
      rw [hμ id (by simpa [memW] using hid)]
      simp [muW, List.getD_eq_getElem?_getD, hp]
    obtain ⟨hf, hr, ht, h1, h2⟩ := h b o u (List.mem_of_getElem? hp)
    unfold Held
    simp only at hr ht ⊢
    rw [hr]
    show lowB W.heap.size (μ' id).1 ∧ (μ' id).1 < W.heap.size ∧ _
    rw [hm]
    refine ⟨h1, h1, fun g' hg' => ?_, fun j c hc => ?_⟩
    · rw [ht] at hg'; cases hg'
    · rw [flat_den hf z0 μ'] at hc
      exact h2 j c hc
  refine ⟨Keeps.refl _ _, hold, fun i j hi hj hb e => ?_⟩
  exact absurd (show lowB W.heap.size (μ' i).1 from (hold i _ (List.getElem?_eq_getElem hi)).lt) hb

section
variable {P : Program} {F : Orc} {G : GOrc}
end

theorem seen_bools {W : World} {b o n : Nat} {f : Nat → Bool} (hb : b < W.heap.size) (h : ∀ j, j < n → W.cell? ⟨b, o + j, none⟩ = some (.bool (f j))) : Seen W b o (V.bools n f) := by
  refine ⟨rfl, rfl, rfl, hb, fun j c hc => ?_⟩
  rw [cells_bools] at hc
  simp only [List.getElem?_toArray, List.getElem?_map, Option.map_eq_some_iff] at hc
  obtain ⟨i, hi, rfl⟩ := hc
  obtain ⟨h1, h2⟩ := List.getElem?_eq_some_iff.1 hi
  simp at h1 h2
  subst h2
  exact h j h1

section
variable {H : Type} {enc : TypeId × Value → H} {P : Program} {w : World} {base : Nat} {held : Bool}
theorem add_none {a : Addr} (h : a.spot = none) (n : Nat) : a.add n = ⟨a.block, a.off + n, none⟩ := by
  obtain ⟨b, o, s⟩ := a
  simp only at h
  subst h
  unfold Addr.add
  split
  · rename_i h0; subst h0; rfl
  · rfl
theorem cells_hold {b : Nat} {l : List Value} {a : Addr} {n : Nat} (h : w.cells? base a n = some l) (hs : a.spot = none) (ha : a.block = b) : ∀ j v, l[j]? = some v → w.cell? ⟨b, a.off + j, none⟩ = some v := by
  intro j v hv
  obtain ⟨_, h2, h3⟩ := World.cells?_some h
  have := h3 j (by rw [← h2]; exact (List.getElem?_eq_some_iff.1 hv).1)
  rw [hv] at this
  rw [← this, add_none hs, ha]

/-- The elements of a slice's whole room, as the reading gives them. -/
def Rows (enc : TypeId × Value → H) (P : Program) (w : World) (base : Nat) (held : Bool) (e : TypeId) (b o c : Nat) : Prop := ∀ i, i < c → ∃ n l y, DataW.trod enc P w base (fun _ => true) held n e l = some y ∧ l.length = P.cellsOf e ∧ ∀ j v, l[j]? = some v → w.cell? ⟨b, o + i * P.cellsOf e + j, none⟩ = some v
theorem rows_cells {t e : TypeId} {cs : List Value} {fuel : Nat} {x : DataW H × List MemPlace} (ht : P.underlying t = some (.slice e)) (h : DataW.trod enc P w base (fun _ => true) held fuel t cs = some x) :
    cs = [.slice none 0 0] ∨ ∃ (a : Addr) (k c : Nat), cs = [.slice (some a) k c] ∧ k ≤ c ∧ (∃ el sp, x.1 = .slice el sp ∧ el.length + sp.length = c) ∧ (a.spot = none → Rows enc P w base held e a.block a.off c) := by
  rcases DataW.trod_slice ht h with ⟨h0, _⟩ | ⟨a, len, cap, elems, rest, n, _, rfl, rfl, hb, hl, hm, hlen, hel, hsp, _⟩
  · exact .inl h0
  obtain ⟨hrl, hr⟩ := hsp rfl
  refine .inr ⟨a, len, cap, rfl, hl, ⟨_, _, rfl, by simp; omega⟩, fun hspot i hi => ?_⟩
  have hb' : ∃ y, (w.cells? base (a.add (i * P.cellsOf e)) (P.cellsOf e)).bind (DataW.trod enc P w base (fun _ => true) held n e) = some y := by
    by_cases hi' : i < len
    · rw [hel i hi']; exact ⟨elems[i], List.getElem?_eq_getElem (by omega)⟩
    · have := hr (i - len) (by omega)
      rw [show len + (i - len) = i by omega] at this
      rw [this]; exact ⟨rest[i - len], List.getElem?_eq_getElem (by omega)⟩
  obtain ⟨y, hy⟩ := hb'
  rw [Option.bind_eq_some_iff] at hy
  obtain ⟨l, h1, h2⟩ := hy
  refine ⟨n, l, y, h2, (World.cells?_some h1).2.1, fun j v hv => ?_⟩
  rw [add_none hspot] at h1
  exact cells_hold (b := a.block) h1 rfl rfl j v hv
theorem rows_bools {e : TypeId} {b o c : Nat} (he : P.underlying e = some .bool) (hc : P.cellsOf e = 1) (h : Rows enc P w base held e b o c) : ∃ f : Nat → Bool, ∀ j, j < c → w.cell? ⟨b, o + j, none⟩ = some (.bool (f j)) := by
  have h1 : ∀ j, ∃ q, j < c → w.cell? ⟨b, o + j, none⟩ = some (.bool q) := by
    intro j
    by_cases hj : j < c
    · obtain ⟨n, l, y, h2, _, h4⟩ := h j hj
      obtain ⟨q, rfl, _⟩ := DataW.trod_bool he h2
      exact ⟨q, fun _ => by have := h4 0 _ rfl; simpa [hc] using this⟩
    · exact ⟨false, fun hj' => absurd hj' hj⟩
  exact ⟨fun j => (h1 j).choose, fun j hj => (h1 j).choose_spec hj⟩
end
end Go.Ev
namespace Go.Ev
theorem seen_nil {W : World} : ∀ b o u, (b, o, u) ∈ ([] : List (Nat × Nat × V)) → Seen W b o u := fun _ _ _ h => by cases h
theorem seen_cons {W : World} {b o : Nat} {u : V} {ws : List (Nat × Nat × V)} (h : Seen W b o u) (hl : ∀ b o u, (b, o, u) ∈ ws → Seen W b o u) : ∀ b' o' u', (b', o', u') ∈ (b, o, u) :: ws → Seen W b' o' u' := fun b' o' u' hm => by
  rcases List.mem_cons.1 hm with e | hm
  · cases e; exact h
  · exact hl _ _ _ hm
end Go.Ev
