/- FieldReduced: every answer is the one reduced Element of its number; bytes there and back. Conditions: none. -/
import Derived.Test.YtbnclikjbnfodaaLReduced
import Derived.Test.YtbnclikjbnfodaaZ19
import Derived.Test.YtbnclikjbnfodaaRows
namespace Go.Proofs.Ytbnclikjbnfodaa.fieldReduced
open Go.ChangeShapes Go.WideShapes Go.ChangeAt Go.RowKit Go.Ev

theorem own : ownKnob Try.prog.godebug = none := by kernel_rfl

theorem walk (x : (Nat → Int)) (y : (Nat → Int)) (b : (Nat → Int)) (w0 : (∀ j, j < 5 → (Lit.int .u64 (x j)).wf = true)) (w1 : (∀ j, j < 5 → (Lit.int .u64 (y j)).wf = true)) (w2 : (∀ j, j < 32 → (Lit.int .u8 (b j)).wf = true)) (W : World) : Calls Try.prog 12 #[(V.ints .u64 5 x).den z0, (V.ints .u64 5 y).den z0, (V.ints .u8 32 b).den z0] W fun e W' => e = .returned (.bool true) ∧ Below W.heap.size W W' := by
  have hl : lawReduced x y b = true := reduced_true (fun j hj => wf_u64 (w0 j hj)) (fun j hj => wf_u64 (w1 j hj)) (fun j hj => wf_u8 (w2 j hj))
  have h : PureAt Try.prog 12 #[(V.ints .u64 5 x).den z0, (V.ints .u64 5 y).den z0, (V.ints .u8 32 b).den z0] (.bool true) W := by
    have h := (lawReduced_p x y b).2 z0 W
    rw [hl] at h
    exact h
  rcases h with h | ⟨_, h⟩
  · exact (no_value Try.func12 (by kernel_rfl) (by kernel_rfl) h).elim
  · exact h

set_option maxRecDepth 100000 in
theorem lifted (os : Os) (started : os.Started) (H : Type) (enc : TypeId × Value → H) :
    ReturnsInHanded {} Try.checked os 12 .any (Rows.fieldReducedSpec.pre6 enc Try.prog Try.f12 Rows.fieldReducedRow.domain false) (Rows.fieldReducedSpec.post enc Try.prog Try.f12 false true false false) := by
  refine returnsInHanded_of_change (C := Try.checked) own started (by kernel_rfl) Try.func12
    (ChangeSpec.witness6 (enc := enc) (C := Try.checked) false ⟨#[], #[.agg #[.int .u64 0, .int .u64 0, .int .u64 0, .int .u64 0, .int .u64 0], .agg #[.int .u64 0, .int .u64 0, .int .u64 0, .int .u64 0, .int .u64 0], .agg #[.int .u8 0, .int .u8 0, .int .u8 0, .int .u8 0, .int .u8 0, .int .u8 0, .int .u8 0, .int .u8 0, .int .u8 0, .int .u8 0, .int .u8 0, .int .u8 0, .int .u8 0, .int .u8 0, .int .u8 0, .int .u8 0, .int .u8 0, .int .u8 0, .int .u8 0, .int .u8 0, .int .u8 0, .int .u8 0, .int .u8 0, .int .u8 0, .int .u8 0, .int .u8 0, .int .u8 0, .int .u8 0, .int .u8 0, .int .u8 0, .int .u8 0, .int .u8 0]], []⟩ 8 (by kernel_rfl) (by kernel_rfl) (by kernel_rfl) (by kernel_rfl)) ?_
  intro W base args ds gs before hval0 hW hcnd _
  have hval : ∀ (j : Nat) t v, Try.f12.params[j]? = some t → args[j]? = some v → Value.okWide Try.prog W .any base t v := hval0
  have hW' := hW
  obtain ⟨p, q, hA0, hV, rfl, hfz, hnd⟩ := hW
  have hA : DataW.TrodAll enc Try.prog W 0 (fun _ => true) true Try.f12.params.toList args.toList ds p := hA0
  rw [Try.params12] at hA hval
  obtain ⟨v0, vs0, d0, ds0, p0, q0, hargs, rfl, rfl, h0, r0⟩ := trodAll_cons hA
  obtain ⟨v1, vs1, d1, ds1, p1, q1, rfl, rfl, rfl, h1, r1⟩ := trodAll_cons r0
  obtain ⟨v2, vs2, d2, ds2, p2, q2, rfl, rfl, rfl, h2, r2⟩ := trodAll_cons r1
  obtain ⟨rfl, rfl, rfl⟩ := trodAll_nil r2
  obtain rfl : args = #[v0, v1, v2] := by cases args; simp_all
  obtain ⟨rfl, rfl⟩ := trodVars_none hV
  obtain ⟨x, rfl, rfl, rfl, w0⟩ := open_ints_arr (n := 5) Try.underlying24 Try.underlying22 (by kernel_rfl) (by kernel_rfl) (hval 0 24 v0 rfl rfl) h0
  obtain ⟨y, rfl, rfl, rfl, w1⟩ := open_ints_arr (n := 5) Try.underlying24 Try.underlying22 (by kernel_rfl) (by kernel_rfl) (hval 1 24 v1 rfl rfl) h1
  obtain ⟨b, rfl, rfl, rfl, w2⟩ := open_ints_arr (n := 32) Try.underlying38 Try.underlying5 (by kernel_rfl) (by kernel_rfl) (hval 2 38 v2 rfl rfl) h2
  clear hA0 hval0
  simp only [List.append_nil] at hW'
  refine (walk x y b w0 w1 w2 W).mono fun e W' ⟨he, hb⟩ => ?_
  subst he
  exact ⟨_, rfl, post_law (pa := []) (pv := []) hW' (trodAll_cons_mk (shut_bool Try.underlying4 _) trodAll_mk0) (trodAll_cons_mk (shut_ints_arr Try.underlying24 Try.underlying22 (by kernel_rfl) (by kernel_rfl) w0) (trodAll_cons_mk (shut_ints_arr Try.underlying24 Try.underlying22 (by kernel_rfl) (by kernel_rfl) w1) (trodAll_cons_mk (shut_ints_arr Try.underlying38 Try.underlying5 (by kernel_rfl) (by kernel_rfl) w2) trodAll_mk0))) rfl hb⟩

theorem over : Rows.fieldReducedRow.holds Try.pinned (OpenSpec.ofChange Rows.fieldReducedSpec) :=
  OpenClaim.holds_of_wide 12 Try.f12 rfl rfl rfl rfl rfl rfl rfl ⟨rfl, rfl, rfl, rfl, rfl⟩ rfl rfl rfl rfl rfl (by kernel_rfl) Try.func12 (by kernel_rfl)
    (of_decide_eq_true (by kernel_rfl)) (by unfold Func.isWrapper; first | (rw [if_pos (by decide +kernel)]; kernel_rfl) | (rw [if_neg (by decide +kernel)]; exact ⟨rfl, rfl⟩))
    (fun os started H enc _ => lifted os started H enc)

theorem proved : Rows.FieldReducedSaid := over

#print axioms proved
end Go.Proofs.Ytbnclikjbnfodaa.fieldReduced
