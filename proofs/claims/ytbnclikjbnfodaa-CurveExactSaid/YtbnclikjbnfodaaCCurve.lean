/- CurveExact: for every script the law answers true, and the script reads as before. Conditions: none. -/
import Derived.Test.YtbnclikjbnfodaaY10
import Derived.Test.YtbnclikjbnfodaaRows
namespace Go.Proofs.Ytbnclikjbnfodaa.curveExact
open Go.ChangeShapes Go.WideShapes Go.ChangeAt Go.RowKit Go.Ev
set_option linter.unusedVariables false
set_option linter.unusedSimpArgs false

theorem own : ownKnob Try.prog.godebug = none := by kernel_rfl
theorem laidOut : laidOutB Try.prog = true := by kernel_rfl

set_option maxRecDepth 100000 in
theorem walk {H : Type} {enc : TypeId × Value → H} {W : World} {base : Nat} {v0 : Value} {d0 : DataW H} {p0 : List MemPlace} (hv0 : Value.okWide Try.prog W .any base 93 v0) (h0 : DataW.Trod enc Try.prog W 0 (fun _ => true) true 93 v0 d0 p0) : Calls Try.prog 20 #[v0] W fun e W' => e = .returned (.bool true) ∧ Below W.heap.size W W' := by
  rcases ops_open hv0 h0 with rfl | ⟨b, o, k, c, g, rfl, hs, hk⟩
  · refine law_callsK (args := [.snil]) (ws := []) Try.func20 (by kernel_rfl) seen_nil (fun μ' hμ => ?_) cxn_all rfl (Nat.le_of_ble_eq_true (by kernel_rfl)) (by kernel_rfl)
    simp [V.den, muW]
  · refine law_callsK (args := [.sl 0 0 k c]) (ws := [(b, o, V.raw (119 * k) g)]) Try.func20 (by kernel_rfl) (seen_cons hs seen_nil) (fun μ' hμ => ?_) (cxl_all k c g (fun _ => hk)) rfl (Nat.le_of_ble_eq_true (by kernel_rfl)) (by kernel_rfl)
    have e0 : μ' 0 = _ := hμ 0 (by simp [memW])
    simp [V.den, muW, e0]

set_option maxRecDepth 100000 in
theorem lifted (os : Os) (started : os.Started) (H : Type) (enc : TypeId × Value → H) :
    ReturnsInHanded {} Try.checked os 20 .any (Rows.curveExactSpec.pre6 enc Try.prog Try.f20 Rows.curveExactRow.domain false) (Rows.curveExactSpec.post enc Try.prog Try.f20 false true false false) := by
  refine returnsInHanded_of_change (C := Try.checked) own started (by kernel_rfl) Try.func20
    (ChangeSpec.witness6 (enc := enc) (C := Try.checked) false ⟨#[], #[.slice none 0 0], []⟩ 8 (by kernel_rfl) (by kernel_rfl) (by kernel_rfl) (by kernel_rfl)) ?_
  intro W base args ds gs before hval0 hW hcnd _
  have hval : ∀ (j : Nat) t v, Try.f20.params[j]? = some t → args[j]? = some v → Value.okWide Try.prog W .any base t v := hval0
  have hW' := hW
  obtain ⟨p, q, hA0, hV, rfl, hfz, hnd⟩ := hW
  have hA : DataW.TrodAll enc Try.prog W 0 (fun _ => true) true Try.f20.params.toList args.toList ds p := hA0
  rw [Try.params20] at hA hval
  obtain ⟨v0, vs0, d0, ds0, p0, q0, hargs, rfl, rfl, h0, r0⟩ := trodAll_cons hA
  obtain ⟨rfl, rfl, rfl⟩ := trodAll_nil r0
  obtain rfl : args = #[v0] := by cases args; simp_all
  obtain ⟨rfl, rfl⟩ := trodVars_none hV
  have hlt := hW'.lt
  have hcall := walk (hval 0 93 v0 rfl rfl) h0
  refine hcall.mono fun e W' ⟨he, hb⟩ => ?_
  subst he
  exact ⟨_, rfl, post_law (pv := []) hW' (trodAll_cons_mk (shut_bool Try.underlying4 _) trodAll_mk0) (trodAll_cons_mk (Below.trod laidOut (by kernel_rfl) (of_decide_eq_true (by kernel_rfl)) h0 hb (fun x hx => hlt x (by simp [hx]))) trodAll_mk0) rfl hb⟩

theorem fact1 : Try.pinned.checked.prog.funcNamed Rows.curveExactRow.func = some 20 := by kernel_rfl
theorem fact3 : Try.f20.isInstance Try.pinned.checked.prog Rows.curveExactRow.origin Rows.curveExactRow.targs := of_decide_eq_true (by kernel_rfl)
theorem fact4 : Try.f20.isWrapper Try.pinned.checked.prog Rows.curveExactRow.wrapper Rows.curveExactRow.mainSum := by unfold Func.isWrapper; first | (rw [if_pos (by decide +kernel)]; kernel_rfl) | (rw [if_neg (by decide +kernel)]; exact ⟨rfl, rfl⟩)
theorem f_ip : Try.pinned.checked.prog.inPlace 20 = ["math/bits.Add64"] := by kernel_rfl
theorem f_un : Try.pinned.checked.prog.unfollowed 20 = false := by kernel_rfl
theorem f_nm : Try.pinned.checked.prog.varsNamed 20 = [] := by kernel_rfl
theorem f_re : Try.pinned.checked.prog.recurses 20 = false := by kernel_rfl
theorem f_la : laidOutB Try.pinned.checked.prog = true := by kernel_rfl
theorem f_mm : (Try.pinned.checked.prog.mayEnter && (Rows.curveExactRow.lifted == Try.pinned.checked.prog.liftsFinal) && (Try.pinned.checked.prog.make == some Rows.curveExactRow.make)) = true := by kernel_rfl
theorem f_me : Try.pinned.checked.prog.mayEnter = true := by have h := f_mm; rw [Bool.and_eq_true, Bool.and_eq_true] at h; exact h.1.1
theorem f_lf : (Rows.curveExactRow.lifted == Try.pinned.checked.prog.liftsFinal) = true := by have h := f_mm; rw [Bool.and_eq_true, Bool.and_eq_true] at h; exact h.1.2
theorem f_mk : (Try.pinned.checked.prog.make == some Rows.curveExactRow.make) = true := by have h := f_mm; rw [Bool.and_eq_true, Bool.and_eq_true] at h; exact h.2
theorem fact2 : joinedFacts Try.pinned.checked.prog 20 Try.f20 Rows.curveExactSpec Rows.curveExactRow = true := by
  unfold joinedFacts
  rw [f_ip, f_un, f_nm, f_re, f_la, f_me, f_lf, f_mk]
  kernel_rfl
theorem over : Rows.curveExactRow.holds Try.pinned (OpenSpec.ofChange Rows.curveExactSpec) :=
  OpenClaim.holds_of_wide 20 Try.f20 rfl rfl rfl rfl rfl rfl rfl ⟨rfl, rfl, rfl, rfl, rfl⟩ rfl rfl rfl rfl rfl fact1 Try.func20 fact2 fact3 fact4
    (fun os started H enc _ => lifted os started H enc)

theorem proved : Rows.CurveExactSaid := over

#print axioms proved
end Go.Proofs.Ytbnclikjbnfodaa.curveExact
