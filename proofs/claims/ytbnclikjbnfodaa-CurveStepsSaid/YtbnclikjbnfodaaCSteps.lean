/- CurveSteps: n times a point is the sum of n of it, one by one; Small. Conditions: none. -/
import Derived.Test.YtbnclikjbnfodaaLSteps
import Derived.Test.YtbnclikjbnfodaaZ19
import Derived.Test.YtbnclikjbnfodaaRows
namespace Go.Proofs.Ytbnclikjbnfodaa.curveSteps
open Go.ChangeShapes Go.WideShapes Go.ChangeAt Go.RowKit Go.Ev

theorem own : ownKnob Try.prog.godebug = none := by kernel_rfl

theorem walk (key : (Nat → Int)) (n : Int) (w0 : (∀ j, j < 32 → (Lit.int .u8 (key j)).wf = true)) (w1 : (Lit.int .i64 n).wf = true) (W : World) : Calls Try.prog 18 #[(V.ints .u8 32 key).den z0, (V.int .i64 n).den z0] W fun e W' => e = .returned (.bool true) ∧ Below W.heap.size W W' := by
  have hl : lawSteps key n = true := (fun _ => steps_true (fun j hj => wf_u8 (w0 j hj))) w1
  have h : PureAt Try.prog 18 #[(V.ints .u8 32 key).den z0, (V.int .i64 n).den z0] (.bool true) W := by
    have h := (lawSteps_p key n).2 z0 W
    rw [hl] at h
    exact h
  rcases h with h | ⟨_, h⟩
  · exact (no_value Try.func18 (by kernel_rfl) (by kernel_rfl) h).elim
  · exact h

set_option maxRecDepth 100000 in
theorem lifted (os : Os) (started : os.Started) (H : Type) (enc : TypeId × Value → H) :
    ReturnsInHanded {} Try.checked os 18 .any (Rows.curveStepsSpec.pre6 enc Try.prog Try.f18 Rows.curveStepsRow.domain false) (Rows.curveStepsSpec.post enc Try.prog Try.f18 false true false false) := by
  refine returnsInHanded_of_change (C := Try.checked) own started (by kernel_rfl) Try.func18
    (ChangeSpec.witness6 (enc := enc) (C := Try.checked) false ⟨#[], #[.agg #[.int .u8 0, .int .u8 0, .int .u8 0, .int .u8 0, .int .u8 0, .int .u8 0, .int .u8 0, .int .u8 0, .int .u8 0, .int .u8 0, .int .u8 0, .int .u8 0, .int .u8 0, .int .u8 0, .int .u8 0, .int .u8 0, .int .u8 0, .int .u8 0, .int .u8 0, .int .u8 0, .int .u8 0, .int .u8 0, .int .u8 0, .int .u8 0, .int .u8 0, .int .u8 0, .int .u8 0, .int .u8 0, .int .u8 0, .int .u8 0, .int .u8 0, .int .u8 0], .int .i64 0], []⟩ 8 (by kernel_rfl) (by kernel_rfl) (by kernel_rfl) (by kernel_rfl)) ?_
  intro W base args ds gs before hval0 hW hcnd _
  have hval : ∀ (j : Nat) t v, Try.f18.params[j]? = some t → args[j]? = some v → Value.okWide Try.prog W .any base t v := hval0
  have hW' := hW
  obtain ⟨p, q, hA0, hV, rfl, hfz, hnd⟩ := hW
  have hA : DataW.TrodAll enc Try.prog W 0 (fun _ => true) true Try.f18.params.toList args.toList ds p := hA0
  rw [Try.params18] at hA hval
  obtain ⟨v0, vs0, d0, ds0, p0, q0, hargs, rfl, rfl, h0, r0⟩ := trodAll_cons hA
  obtain ⟨v1, vs1, d1, ds1, p1, q1, rfl, rfl, rfl, h1, r1⟩ := trodAll_cons r0
  obtain ⟨rfl, rfl, rfl⟩ := trodAll_nil r1
  obtain rfl : args = #[v0, v1] := by cases args; simp_all
  obtain ⟨rfl, rfl⟩ := trodVars_none hV
  obtain ⟨key, rfl, rfl, rfl, w0⟩ := open_ints_arr (n := 32) Try.underlying61 Try.underlying5 (by kernel_rfl) (by kernel_rfl) (hval 0 61 v0 rfl rfl) h0
  obtain ⟨n, rfl, rfl, rfl, w1⟩ := open_int Try.underlying3 (hval 1 3 v1 rfl rfl) h1
  clear hA0 hval0
  simp only [List.append_nil] at hW'
  refine (walk key n w0 w1 W).mono fun e W' ⟨he, hb⟩ => ?_
  subst he
  exact ⟨_, rfl, post_law (pa := []) (pv := []) hW' (trodAll_cons_mk (shut_bool Try.underlying4 _) trodAll_mk0) (trodAll_cons_mk (shut_ints_arr Try.underlying61 Try.underlying5 (by kernel_rfl) (by kernel_rfl) w0) (trodAll_cons_mk (shut_int Try.underlying3 w1) trodAll_mk0)) rfl hb⟩

theorem over : Rows.curveStepsRow.holds Try.pinned (OpenSpec.ofChange Rows.curveStepsSpec) :=
  OpenClaim.holds_of_wide 18 Try.f18 rfl rfl rfl rfl rfl rfl rfl ⟨rfl, rfl, rfl, rfl, rfl⟩ rfl rfl rfl rfl rfl (by kernel_rfl) Try.func18 (by kernel_rfl)
    (of_decide_eq_true (by kernel_rfl)) (by unfold Func.isWrapper; first | (rw [if_pos (by decide +kernel)]; kernel_rfl) | (rw [if_neg (by decide +kernel)]; exact ⟨rfl, rfl⟩))
    (fun os started H enc _ => lifted os started H enc)

theorem proved : Rows.CurveStepsSaid := over

#print axioms proved
end Go.Proofs.Ytbnclikjbnfodaa.curveSteps
