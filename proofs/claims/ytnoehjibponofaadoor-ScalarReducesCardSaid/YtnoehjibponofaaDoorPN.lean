/-
  From the listed variables to the evaluator's memory; a law's call. Conditions: none.
-/
import Derived.Test.YtnoehjibponofaaDoorFvL
import Derived.Test.YtnoehjibponofaaDoorFvJ
import Derived.LaidMore
import Derived.LaidLaws
import Derived.ChangeBears2
namespace Go.Ev
open Go.RowKit Go.ChangeShapes Go.WideShapes Go.ChangeAt

/-- What a listed variable, an array of integers, holds. -/
theorem laid_ints {P : Program} {W : World} {name : String} {g : Nat} {cs : Array Value} {t e : TypeId} {k : IntKind} {n fuel : Nat} {f : Nat → Int} {p : List MemPlace} (hg : P.globalNamed name = some g) (hv : W.var? P name = some cs)
    (ht : P.underlying t = some (.array n e)) (he : P.underlying e = some (.int k)) (hc : P.cellsOf e = 1) (hd : DataW.trod (fun _ => ()) P W 0 (fun _ => true) false fuel t cs.toList = some (dArr k n f, p)) :
    ∀ j, j < n → W.cell? ⟨g, j, none⟩ = some (.int k (f j)) := by
  intro j hj
  obtain ⟨xs, m, rfl, hx, hlen, hxl, hel⟩ := DataW.trod_array ht hd
  have h1 := hel j hj
  have hxj : xs[j]? = some xs[j] := List.getElem?_eq_getElem (by omega)
  rw [hc, Nat.mul_one, hxj] at h1
  obtain ⟨q, e1, e2, _⟩ := DataW.trod_int he h1
  simp only [Prod.mk.injEq, dArr, DataW.agg.injEq] at hx
  have e3 := congrArg (fun l => l[j]?) hx.1
  simp only [List.getElem?_map, hxj, Option.map_some, e2, List.getElem?_range hj, Option.some.injEq, DataW.lit.injEq, Lit.int.injEq, true_and] at e3
  rw [World.var?_cell hg hv j]
  have e4 := congrArg (fun l => l[0]?) e1
  simp [List.getElem?_drop] at e4
  rw [e3]
  simpa using e4

/-- The memory of a call that begins: the package variables. -/
def memG (l : List (Nat × V)) : List V := l.map fun p => .tup [.fn p.1, p.2]
theorem rel_entry {W : World} {l : List (Nat × V)} (h : ∀ g u, (g, u) ∈ l → u.flat = true ∧ g < W.heap.size ∧ ∀ (j : Nat) (c : Value), (u.den z0).cells[j]? = some c → W.cell? ⟨g, j, none⟩ = some c) :
    RelM ⟨lowB W.heap.size, W, 0, fun i => ((l.getD i (0, V.un)).1, 0)⟩ (fun i => ((l.getD i (0, V.un)).1, 0)) (memG l) W := by
  refine ⟨fun μ' hμ => ?_, Agree.refl _ _, Nat.zero_le _⟩
  have hold : ∀ id v, (memG l)[id]? = some v → Held μ' (lowB W.heap.size) W id v := by
    intro id v hv
    unfold memG at hv
    rw [List.getElem?_map, Option.map_eq_some_iff] at hv
    obtain ⟨⟨g, u⟩, hp, rfl⟩ := hv
    have hid := (List.getElem?_eq_some_iff.1 hp).1
    have hm : μ' id = (g, 0) := by
      rw [hμ id (by simpa [memG] using hid)]
      simp [List.getD_eq_getElem?_getD, hp]
    obtain ⟨hf, h1, h2⟩ := h g u (List.mem_of_getElem? hp)
    unfold Held
    show lowB W.heap.size (μ' id).1 ∧ (μ' id).1 < W.heap.size ∧ _
    rw [hm]
    refine ⟨h1, h1, fun g' hg' => ?_, fun j c hc => ?_⟩
    · have : tagOf (.tup [.fn g, u]) = some g := rfl
      rw [this] at hg'
      cases hg'; rfl
    · rw [flat_den hf z0 μ'] at hc
      rw [Nat.zero_add]
      exact h2 j c hc
  refine ⟨Keeps.refl _ _, hold, fun i j hi hj hb e => ?_⟩
  exact absurd (show lowB W.heap.size (μ' i).1 from (hold i _ (List.getElem?_eq_getElem hi)).lt) hb
theorem ints_cells {W : World} {g n : Nat} {k : IntKind} {f : Nat → Int} (hn : 0 < n) (h : ∀ j, j < n → W.cell? ⟨g, j, none⟩ = some (.int k (f j))) :
    (V.ints k n f).flat = true ∧ g < W.heap.size ∧ ∀ (j : Nat) (c : Value), ((V.ints k n f).den z0).cells[j]? = some c → W.cell? ⟨g, j, none⟩ = some c := by
  refine ⟨rfl, World.block_lt_of_cell? W ⟨g, 0, none⟩ (h 0 hn), fun j c hc => ?_⟩
  rw [cells_ints] at hc
  simp only [List.getElem?_toArray, List.getElem?_map, Option.map_eq_some_iff] at hc
  obtain ⟨i, hi, rfl⟩ := hc
  obtain ⟨h1, h2⟩ := List.getElem?_eq_some_iff.1 hi
  simp at h1 h2
  subst h2
  exact h j h1

section
variable {P : Program} {F : Orc} {G : GOrc}
/-- A law's call. -/
theorem law_calls (hM : P.follows .mixedOrders = true) (hF : OrcOK P F) (hG : GOrcOK P G) {N : Nat} {f : FuncId} {fn : Func} (hf : P.funcs[f]? = some fn) (hb : fn.body.isSome = true) {l : List (Nat × V)} {args : List V} {W : World}
    (hl : ∀ g u, (g, u) ∈ l → u.flat = true ∧ g < W.heap.size ∧ ∀ (j : Nat) (c : Value), (u.den z0).cells[j]? = some c → W.cell? ⟨g, j, none⟩ = some c) (ha : V.flats args = true) {n : Nat}
    (h : awp P F G N (body fn) (ends P fn fun v _ => okV (V.bool true) v) ⟨args ++ List.replicate n V.un, memG l⟩) (hn : n = fn.ntmps - args.length) :
    Calls P f (args.map (V.den z0)).toArray W fun e W' => e = .returned (.bool true) ∧ Below W.heap.size W W' := by
  obtain ⟨c, hc⟩ := Option.isSome_iff_exists.1 hb
  have hbody : body fn = c := by simp [body, hc]
  rw [hbody] at h
  subst hn
  have hargs : ∀ μ' : Mu, (args.map (V.den z0)).toArray = (args.map (V.den μ')).toArray := by
    intro μ'
    have := flats_den ha μ' z0
    rw [dens_map, dens_map] at this
    rw [this]
  refine (calls_of_awp (C := ⟨lowB W.heap.size, W, 0, _⟩) hM hF hG hf hc (under_low (Nat.le_refl _)) (rel_entry hl) (fun μ' _ => hargs μ') h).mono fun e w' ⟨v, m', μ1, val, hK, he, hrm, hval⟩ => ?_
  have e1 := hval μ1 (Agree.refl _ _)
  unfold okV at hK
  split at hK
  · rename_i hfl
    rw [flat_den hfl z0 μ1, hK] at e1
    subst e1
    exact ⟨he, (hrm.all μ1 (Agree.refl _ _)).below.below⟩
  · exact hK.elim
end
end Go.Ev
