/- ScalarInverts: Invert of any Scalar is the document's. Conditions: the package variable order starts as the program lays it (the card ties it to the program's text). -/
import Derived.Test.YtnoehjibponofaaDoorY07
import Derived.Test.YtnoehjibponofaaDoorRows
import Derived.Test.YtnoehjibponofaaDoorTie
import Derived.Test.YtnoehjibponofaaDoorCards
import Derived.SevenTiedAt
import Derived.LaidMore
namespace Go.Proofs.YtnoehjibponofaaDoor.scalarInverts
open Go.ChangeShapes Go.WideShapes Go.ChangeAt Go.RowKit Go.Ev

theorem own : ownKnob Tryd.prog.godebug = none := by kernel_rfl

theorem g2 : Tryd.prog.globalNamed "farebox/scalar.order" = some 2 := by kernel_rfl
theorem t2 : (Tryd.prog.globals[2]?).map (·.type) = some 55 := by kernel_rfl
def laidL : List (String × DataW Unit) := ([("farebox/scalar.order", Rows.laid_farebox_scalar_order)] : List (String × DataW Unit))
theorem door_met (os : Os) (args : Array Value) : laidMetH Tryd.prog laidL ((World.doorLaid Tryd.prog 400 os).forCall (fun _ _ => 0) ⟨#[], args, []⟩).memory :=
  laidMetH_of_parts3 (fuel := 8) (laidMet_of_run' 8 (by kernel_rfl) (by kernel_rfl)) (by kernel_rfl) (by kernel_rfl)
theorem of_laid {W : World} (h : laidMetH Tryd.prog laidL W) : ∀ g u, (g, u) ∈ ([(2, V.ints .u64 4 ordF)] : List (Nat × V)) → u.flat = true ∧ g < W.heap.size ∧ ∀ (j : Nat) (c : Value), (u.den z0).cells[j]? = some c → W.cell? ⟨g, j, none⟩ = some c := by
  rw [MakeChecks.laidMetH_plain _ _ _ (by kernel_rfl)] at h
  obtain ⟨ps, ⟨a0, b0, cs0, f0, p0, q0, hg0, ht0, hv0, hd0, _, _⟩, _, _⟩ := h
  obtain rfl := Option.some.inj (g2.symm.trans hg0)
  obtain rfl := Option.some.inj (t2.symm.trans ht0)
  have c0 := laid_ints (n := 4) (k := .u64) (f := ordF) hg0 hv0 Tryd.underlying55 Tryd.underlying49 (by kernel_rfl) (by rw [hd0]; exact congrArg (fun d => some (d, p0)) (show (Rows.laid_farebox_scalar_order : DataW Unit) = dArr .u64 4 ordF by kernel_rfl))
  intro g u hm
  simp only [List.mem_cons, Prod.mk.injEq, List.not_mem_nil, or_false] at hm
  rcases hm with ⟨rfl, rfl⟩
  · exact ints_cells (by omega) c0
theorem walk (a : (Nat → Int)) (w0 : (∀ j, j < 32 → (Lit.int .u8 (a j)).wf = true)) (W : World) (h : laidMetH Tryd.prog laidL W) : Calls Tryd.prog 7 #[(V.ints .u8 32 a).den z0] W fun e W' => e = .returned (.bool true) ∧ Below W.heap.size W W' := by
  have ha := lawInverts_a (by_wf w0)
  exact law_calls (fn := Tryd.f7) (N := 300) (n := 24) (args := [(V.ints .u8 32 a)]) hM o32_ok (noG_ok _) Tryd.func7 (by kernel_rfl) (of_laid h) (by kernel_rfl) ha (by kernel_rfl)

set_option maxRecDepth 100000 in
theorem lifted (os : Os) (started : os.Started) (H : Type) (enc : TypeId × Value → H) :
    ReturnsInHanded {} Tryd.checked os 7 .any (fun w args => (Rows.scalarInvertsSpec.pre enc Tryd.prog Tryd.f7 [] false w args ∧ laidMetH Tryd.prog laidL w) ∧ sizedMet enc Tryd.prog Tryd.f7 (OpenSpec.ofChange Rows.scalarInvertsSpec) false w args)
      (Rows.scalarInvertsSpec.post enc Tryd.prog Tryd.f7 false true false false) := by
  refine returnsInHanded_of_change_and (C := Tryd.checked) (X := fun w _ => laidMetH Tryd.prog laidL w) (fun _ _ _ hh h => h.of_heap hh) own started (by kernel_rfl) Tryd.func7
    (ChangeSpec.witness_shaped (enc := enc) (C := Tryd.checked) (os := os) (X := fun w _ => laidMetH Tryd.prog laidL w) false (World.doorLaid Tryd.prog 400 os) #[.agg #[.int .u8 0, .int .u8 0, .int .u8 0, .int .u8 0, .int .u8 0, .int .u8 0, .int .u8 0, .int .u8 0, .int .u8 0, .int .u8 0, .int .u8 0, .int .u8 0, .int .u8 0, .int .u8 0, .int .u8 0, .int .u8 0, .int .u8 0, .int .u8 0, .int .u8 0, .int .u8 0, .int .u8 0, .int .u8 0, .int .u8 0, .int .u8 0, .int .u8 0, .int .u8 0, .int .u8 0, .int .u8 0, .int .u8 0, .int .u8 0, .int .u8 0, .int .u8 0]] 8 rfl (World.shaped_of_RefB (by kernel_rfl) (by kernel_rfl)) (by kernel_rfl) (by kernel_rfl) (by kernel_rfl) (door_met os _)) ?_
  intro W base args ds gs before hval0 hW _ _ hL _
  have hval : ∀ (j : Nat) t v, Tryd.f7.params[j]? = some t → args[j]? = some v → Value.okWide Tryd.prog W .any base t v := hval0
  have hW' := hW
  obtain ⟨p, q, hA0, hV, rfl, hfz, hnd⟩ := hW
  have hA : DataW.TrodAll enc Tryd.prog W 0 (fun _ => true) true Tryd.f7.params.toList args.toList ds p := hA0
  rw [Tryd.params7] at hA hval
  obtain ⟨v0, vs0, d0, ds0, p0, q0, hargs, rfl, rfl, h0, r0⟩ := trodAll_cons hA
  obtain ⟨rfl, rfl, rfl⟩ := trodAll_nil r0
  obtain rfl : args = #[v0] := by cases args; simp_all
  obtain ⟨rfl, rfl⟩ := trodVars_none hV
  obtain ⟨a, rfl, rfl, rfl, w0⟩ := open_ints_arr (n := 32) Tryd.underlying23 Tryd.underlying5 (by kernel_rfl) (by kernel_rfl) (hval 0 23 v0 rfl rfl) h0
  clear hA0 hval0
  simp only [List.append_nil] at hW'
  refine (walk a w0 W hL).mono fun e W' ⟨he, hb⟩ => ?_
  subst he
  exact ⟨_, rfl, post_law (pa := []) (pv := []) hW' (trodAll_cons_mk (shut_bool Tryd.underlying4 _) trodAll_mk0) (trodAll_cons_mk (shut_ints_arr Tryd.underlying23 Tryd.underlying5 (by kernel_rfl) (by kernel_rfl) w0) trodAll_mk0) rfl hb⟩

theorem over : Rows.ScalarInvertsSaid :=
  OpenClaim.holds_of_wide 7 Tryd.f7 rfl rfl rfl rfl rfl rfl rfl ⟨rfl, rfl, rfl, rfl, rfl⟩ rfl rfl rfl rfl rfl (by kernel_rfl) Tryd.func7 (by kernel_rfl)
    (of_decide_eq_true (by kernel_rfl)) (by unfold Func.isWrapper; first | (rw [if_pos (by decide +kernel)]; kernel_rfl) | (rw [if_neg (by decide +kernel)]; exact ⟨rfl, rfl⟩))
    (fun os started H enc _ => lifted os started H enc)

theorem proved : Rows.ScalarInvertsCardSaid :=
  Claim7.holds_tied_plain_at .later [] [.data] true (true, "64b77d69de8d39f77b9ea8c15508f8cdc1b19fdcff512cb92374bde1b69983d8") false
    over (fun _ h => by cases h) (by kernel_rfl) (fun _ h => by cases h) scalarInverts_row_tie rfl ⟨rfl, rfl⟩ (by kernel_rfl) rfl
    (fun f fn hf hfn => by
      obtain rfl : f = 7 := Option.some.inj ((show Tryd.prog.funcNamed "farebox/fareboxlaw06.ScalarInverts" = some 7 by kernel_rfl).symm.trans hf) |>.symm
      obtain rfl : fn = Tryd.f7 := (Option.some.inj (Tryd.func7.symm.trans hfn)).symm
      exact ⟨by kernel_rfl, fun j t ht => by
        rw [Tryd.params7] at ht
        have hm : t ∈ [23] := by simpa using Array.mem_of_getElem? ht
        have hall : ([23].all fun u => !Tryd.prog.wantsStandIn u) = true := by kernel_rfl
        exact (show Tryd.prog.wantsStandIn t = false by simpa using List.all_eq_true.1 hall t hm)⟩)
    (by kernel_rfl)

#print axioms proved
end Go.Proofs.YtnoehjibponofaaDoor.scalarInverts
