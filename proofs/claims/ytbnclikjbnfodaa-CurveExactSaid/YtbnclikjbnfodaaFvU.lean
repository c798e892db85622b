/-
  A struct of two numbers, a slice and a number, handed in: opened. Conditions: none.
-/
import Derived.Test.YtbnclikjbnfodaaFvQ
import Derived.Lib.SmallJoins
namespace Go.Ev
open Go.RowKit Go.ChangeShapes Go.WideShapes Go.ChangeAt Go.Deep Go.Joins 
section
variable {H : Type} {enc : TypeId × Value → H} {P : Program} {w : World} {base : Nat} {held : Bool}
theorem open_carnet {r : Reach} {b0 : Nat} {t e u0 u1 u2 u3 : TypeId} {f0 f1 f2 f3 : Field} {v : Value} {d : DataW H} {p : List MemPlace} (hs : P.underlying t = some (.struct #[f0, f1, f2, f3])) (hone : oneCellFields P #[f0, f1, f2, f3] = true) (hC : P.cellsOf t = 4)
    (hct : P.cellTypes P.depth t = some [u0, u1, u2, u3]) (h0 : P.underlying f0.type = some (.int .i64)) (h1 : P.underlying f1.type = some (.int .i64)) (h2 : P.underlying f2.type = some (.slice e)) (hu : P.underlying u2 = some (.slice e)) (h3 : P.underlying f3.type = some (.int .i64))
    (hv : Value.okWide P w r b0 t v) (h : DataW.Trod enc P w base (fun _ => true) held t v d p) :
    ∃ a b z, v = .agg #[.int .i64 a, .int .i64 b, .slice none 0 0, .int .i64 z] ∨
      ∃ bl o k c, v = .agg #[.int .i64 a, .int .i64 b, .slice (some ⟨bl, o, none⟩) k c, .int .i64 z] ∧ bl < w.heap.size ∧ k ≤ c ∧ (∃ el sp x0 x1 x3, d = .agg [x0, x1, .slice el sp, x3] ∧ el.length + sp.length = c) ∧ Rows enc P w base held e bl o c := by
  have hv' := hv
  obtain ⟨v0, v1, v2, v3, y0, y1, y2, y3, n, rfl, rfl, rfl, e0, e1, e2, e3⟩ := open_agg4 hs hone hC hv h
  obtain ⟨a, ha, _⟩ := DataW.trod_int h0 e0
  obtain ⟨b, hb, _⟩ := DataW.trod_int h1 e1
  obtain ⟨z, hz, _⟩ := DataW.trod_int h3 e3
  simp at ha hb hz
  subst ha hb hz
  refine ⟨a, b, z, ?_⟩
  rcases rows_cells h2 e2 with hn | ⟨ad, k, c, hcs, hk, ⟨el, sp, hd, hl⟩, hR⟩
  · simp at hn; subst hn; exact .inl rfl
  · simp at hcs
    subst hcs
    refine .inr ?_
    unfold Value.okWide at hv'
    rw [hs] at hv'
    simp only at hv'
    obtain ⟨cs, hcs, _, hrow⟩ := hv'
    cases hcs
    obtain ⟨ts, hts, _, hall⟩ := hrow
    rw [hct] at hts
    cases hts
    obtain ⟨u, hu', hcell⟩ := hall 2 (.slice (some ad) k c) rfl
    simp at hu'
    subst hu'
    unfold Cell.okWide at hcell
    simp only [hu] at hcell
    unfold Cell.ok at hcell
    simp only [hu] at hcell
    obtain ⟨_, _, _, hsp, row, cells, hsh, _⟩ := hcell
    have hbl : ad.block < w.heap.size := by
      unfold World.shape? at hsh
      cases hh : w.heap[ad.block]? with
      | none => rw [hh] at hsh; cases hsh
      | some _ => exact (Array.getElem?_eq_some_iff.1 hh).1
    obtain ⟨bl, o, s⟩ := ad
    simp only at hsp hbl hR
    subst hsp
    exact ⟨bl, o, k, c, rfl, hbl, hk, ⟨el, sp, y0.1, y1.1, y3.1, by rw [hd], hl⟩, hR rfl⟩
end
theorem sized_carnet {H : Type} {P : Program} {ts : List TypeId} {ds : List (DataW H)} (h : (DataW.weightsEach P ts ds).all (· ≤ reachBytes) = true) {j : Nat} {t e : TypeId} {f0 f1 f2 f3 : Field} {x0 x1 x3 : DataW H} {el sp : List (DataW H)} (ht : ts[j]? = some t) (hd : ds[j]? = some (.agg [x0, x1, .slice el sp, x3]))
    (hs : P.underlying t = some (.struct #[f0, f1, f2, f3])) (h2 : P.underlying f2.type = some (.slice e)) : (el.length + sp.length) * P.bytesOf e ≤ reachBytes := by
  have := List.all_eq_true.1 h _ (DataW.weights_mem_each ht hd ((el.length + sp.length) * P.bytesOf e) (by simp [DataW.weights, hs, DataW.weightsEach, h2]))
  simpa using this
end Go.Ev
