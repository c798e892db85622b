/- CurveDecodes: Decode of any 32 bytes is the document's. Conditions: none. -/
import Derived.Test.YtbnclikjbnfodaaLDecodes
import Derived.Test.YtbnclikjbnfodaaZ19
import Derived.Test.YtbnclikjbnfodaaRows
namespace Go.Proofs.Ytbnclikjbnfodaa.curveDecodes
open Go.ChangeShapes Go.WideShapes Go.ChangeAt Go.RowKit Go.Ev

theorem own : ownKnob Try.prog.godebug = none := by kernel_rfl

theorem walk (b : (Nat → Int)) (w0 : (∀ j, j < 32 → (Lit.int .u8 (b j)).wf = true)) (W : World) : Calls Try.prog 13 #[(V.ints .u8 32 b).den z0] W fun e W' => e = .returned (.bool true) ∧ Below W.heap.size W W' := by
  have hl : lawDecodes b = true := decodes_true (fun j hj => wf_u8 (w0 j hj))
  have h : PureAt Try.prog 13 #[(V.ints .u8 32 b).den z0] (.bool true) W := by
    have h := (lawDecodes_p b).2 z0 W
    rw [hl] at h
    exact h
  rcases h with h | ⟨_, h⟩
  · exact (no_value Try.func13 (by kernel_rfl) (by kernel_rfl) h).elim
  · exact h

set_option maxRecDepth 100000 in
theorem lifted (os : Os) (started : os.Started) (H : Type) (enc : TypeId × Value → H) :
    ReturnsInHanded {} Try.checked os 13 .any (Rows.curveDecodesSpec.pre6 enc Try.prog Try.f13 Rows.curveDecodesRow.domain false) (Rows.curveDecodesSpec.post enc Try.prog Try.f13 false true false false) := by
  refine returnsInHanded_of_change (C := Try.checked) own started (by kernel_rfl) Try.func13
    (ChangeSpec.witness6 (enc := enc) (C := Try.checked) false ⟨#[], #[.agg #[.int .u8 0, .int .u8 0, .int .u8 0, .int .u8 0, .int .u8 0, .int .u8 0, .int .u8 0, .int .u8 0, .int .u8 0, .int .u8 0, .int .u8 0, .int .u8 0, .int .u8 0, .int .u8 0, .int .u8 0, .int .u8 0, .int .u8 0, .int .u8 0, .int .u8 0, .int .u8 0, .int .u8 0, .int .u8 0, .int .u8 0, .int .u8 0, .int .u8 0, .int .u8 0, .int .u8 0, .int .u8 0, .int .u8 0, .int .u8 0, .int .u8 0, .int .u8 0]], []⟩ 8 (by kernel_rfl) (by kernel_rfl) (by kernel_rfl) (by kernel_rfl)) ?_
  intro W base args ds gs before hval0 hW hcnd _
  have hval : ∀ (j : Nat) t v, Try.f13.params[j]? = some t → args[j]? = some v → Value.okWide Try.prog W .any base t v := hval0
  have hW' := hW
  obtain ⟨p, q, hA0, hV, rfl, hfz, hnd⟩ := hW
  have hA : DataW.TrodAll enc Try.prog W 0 (fun _ => true) true Try.f13.params.toList args.toList ds p := hA0
  rw [Try.params13] at hA hval
  obtain ⟨v0, vs0, d0, ds0, p0, q0, hargs, rfl, rfl, h0, r0⟩ := trodAll_cons hA
  obtain ⟨rfl, rfl, rfl⟩ := trodAll_nil r0
  obtain rfl : args = #[v0] := by cases args; simp_all
  obtain ⟨rfl, rfl⟩ := trodVars_none hV
  obtain ⟨b, rfl, rfl, rfl, w0⟩ := open_ints_arr (n := 32) Try.underlying61 Try.underlying5 (by kernel_rfl) (by kernel_rfl) (hval 0 61 v0 rfl rfl) h0
  clear hA0 hval0
  simp only [List.append_nil] at hW'
  refine (walk b w0 W).mono fun e W' ⟨he, hb⟩ => ?_
  subst he
  exact ⟨_, rfl, post_law (pa := []) (pv := []) hW' (trodAll_cons_mk (shut_bool Try.underlying4 _) trodAll_mk0) (trodAll_cons_mk (shut_ints_arr Try.underlying61 Try.underlying5 (by kernel_rfl) (by kernel_rfl) w0) trodAll_mk0) rfl hb⟩

theorem over : Rows.curveDecodesRow.holds Try.pinned (OpenSpec.ofChange Rows.curveDecodesSpec) :=
  OpenClaim.holds_of_wide 13 Try.f13 rfl rfl rfl rfl rfl rfl rfl ⟨rfl, rfl, rfl, rfl, rfl⟩ rfl rfl rfl rfl rfl (by kernel_rfl) Try.func13 (by kernel_rfl)
    (of_decide_eq_true (by kernel_rfl)) (by unfold Func.isWrapper; first | (rw [if_pos (by decide +kernel)]; kernel_rfl) | (rw [if_neg (by decide +kernel)]; exact ⟨rfl, rfl⟩))
    (fun os started H enc _ => lifted os started H enc)

theorem proved : Rows.CurveDecodesSaid := over

#print axioms proved
end Go.Proofs.Ytbnclikjbnfodaa.curveDecodes
