/- RefundAny: for every input the law answers true, and the input reads as before. Conditions: none. -/
import Derived.Test.YtomipglebaaagaaFvU
import Derived.Test.YtomipglebaaagaaRSa
import Derived.Test.YtomipglebaaagaaRSb
import Derived.Test.YtomipglebaaagaaRSc
import Derived.Test.YtomipglebaaagaaRSd
import Derived.Test.YtomipglebaaagaaFvQ
import Derived.Test.YtomipglebaaagaaRows
namespace Go.Proofs.Ytomipglebaaagaa.refundAny
open Go.ChangeShapes Go.WideShapes Go.ChangeAt Go.RowKit Go.Ev
set_option linter.unusedVariables false
set_option linter.unusedSimpArgs false

theorem own : ownKnob Try.prog.godebug = none := by kernel_rfl
theorem laidOut : laidOutB Try.prog = true := by kernel_rfl

theorem walk {H : Type} {enc : TypeId × Value → H} {W : World} {base : Nat} {v0 v1 v2 v3 : Value} {d0 d1 d2 d3 : DataW H} {p0 p1 p2 p3 : List MemPlace} (hv0 : Value.okWide Try.prog W .any base 27 v0) (h0 : DataW.Trod enc Try.prog W 0 (fun _ => true) true 27 v0 d0 p0) (hv1 : Value.okWide Try.prog W .any base 27 v1) (h1 : DataW.Trod enc Try.prog W 0 (fun _ => true) true 27 v1 d1 p1) (hv2 : Value.okWide Try.prog W .any base 3 v2) (h2 : DataW.Trod enc Try.prog W 0 (fun _ => true) true 3 v2 d2 p2) (hv3 : Value.okWide Try.prog W .any base 3 v3) (h3 : DataW.Trod enc Try.prog W 0 (fun _ => true) true 3 v3 d3 p3) (hz0 : ∀ el sp x0 x1 x3, d0 = DataW.agg [x0, x1, DataW.slice el sp, x3] → (el.length + sp.length) * 1 ≤ reachBytes) (hz1 : ∀ el sp x0 x1 x3, d1 = DataW.agg [x0, x1, DataW.slice el sp, x3] → (el.length + sp.length) * 1 ≤ reachBytes) : Calls Try.prog 4 #[v0, v1, v2, v3] W fun e W' => e = .returned (.bool true) ∧ Below W.heap.size W W' := by
  obtain ⟨gt, rfl, _, _, w2⟩ := open_int Try.underlying3 hv2 h2
  obtain ⟨ig, rfl, _, _, w3⟩ := open_int Try.underlying3 hv3 h3
  rcases open_carnet Try.underlying27 (by kernel_rfl) (by kernel_rfl) (show Try.prog.cellTypes Try.prog.depth 27 = some [3, 3, 25, 3] by kernel_rfl) Try.underlying3 Try.underlying3 Try.underlying25 Try.underlying25 Try.underlying3 hv0 h0 with ⟨sx, rx, tx, rfl | ⟨bx, ox, kx, cx, rfl, hbx, hkx, ⟨elx, spx, x0x, x1x, x3x, hdx, hmx⟩, hRx⟩⟩
  · rcases open_carnet Try.underlying27 (by kernel_rfl) (by kernel_rfl) (show Try.prog.cellTypes Try.prog.depth 27 = some [3, 3, 25, 3] by kernel_rfl) Try.underlying3 Try.underlying3 Try.underlying25 Try.underlying25 Try.underlying3 hv1 h1 with ⟨sq, rq, tq, rfl | ⟨bq, oq, kq, cq, rfl, hbq, hkq, ⟨elq, spq, x0q, x1q, x3q, hdq, hmq⟩, hRq⟩⟩
    · refine law_callsK (args := [.agg [.int .i64 sx, .int .i64 rx, .snil, .int .i64 tx], .agg [.int .i64 sq, .int .i64 rq, .snil, .int .i64 tq], .int .i64 gt, .int .i64 ig]) (ws := []) Try.func4 (by kernel_rfl) seen_nil (fun μ' hμ => ?_) (annn_law sx rx tx sq rq tq gt ig) rfl (Nat.le_of_ble_eq_true (by kernel_rfl)) (by kernel_rfl)
      simp [V.den, V.dens, muW]
    · have hmq : cq ≤ 140737488355328 := by
        have h1 := hz1 _ _ _ _ _ hdq
        have h2 := reachBytes_lt
        omega
      obtain ⟨lq, hlq⟩ := rows_bools Try.underlying4 (by kernel_rfl) hRq
      refine law_callsK (args := [.agg [.int .i64 sx, .int .i64 rx, .snil, .int .i64 tx], .agg [.int .i64 sq, .int .i64 rq, .sl 0 0 kq cq, .int .i64 tq], .int .i64 gt, .int .i64 ig]) (ws := [(bq, oq, V.bools cq lq)]) Try.func4 (by kernel_rfl) (seen_cons (seen_bools hbq hlq) seen_nil) (fun μ' hμ => ?_) (anns_law sx rx tx sq rq tq kq cq cq lq gt ig hkq (by omega)) rfl (Nat.le_of_ble_eq_true (by kernel_rfl)) (by kernel_rfl)
      have e0 : μ' 0 = _ := hμ 0 (by simp [memW])
      simp [V.den, V.dens, muW, e0]
  · rcases open_carnet Try.underlying27 (by kernel_rfl) (by kernel_rfl) (show Try.prog.cellTypes Try.prog.depth 27 = some [3, 3, 25, 3] by kernel_rfl) Try.underlying3 Try.underlying3 Try.underlying25 Try.underlying25 Try.underlying3 hv1 h1 with ⟨sq, rq, tq, rfl | ⟨bq, oq, kq, cq, rfl, hbq, hkq, ⟨elq, spq, x0q, x1q, x3q, hdq, hmq⟩, hRq⟩⟩
    · have hmx : cx ≤ 140737488355328 := by
        have h1 := hz0 _ _ _ _ _ hdx
        have h2 := reachBytes_lt
        omega
      obtain ⟨lx, hlx⟩ := rows_bools Try.underlying4 (by kernel_rfl) hRx
      refine law_callsK (args := [.agg [.int .i64 sx, .int .i64 rx, .sl 0 0 kx cx, .int .i64 tx], .agg [.int .i64 sq, .int .i64 rq, .snil, .int .i64 tq], .int .i64 gt, .int .i64 ig]) (ws := [(bx, ox, V.bools cx lx)]) Try.func4 (by kernel_rfl) (seen_cons (seen_bools hbx hlx) seen_nil) (fun μ' hμ => ?_) (ansn_law sx rx tx kx cx cx lx sq rq tq gt ig hkx (by omega)) rfl (Nat.le_of_ble_eq_true (by kernel_rfl)) (by kernel_rfl)
      have e0 : μ' 0 = _ := hμ 0 (by simp [memW])
      simp [V.den, V.dens, muW, e0]
    · have hmx : cx ≤ 140737488355328 := by
        have h1 := hz0 _ _ _ _ _ hdx
        have h2 := reachBytes_lt
        omega
      obtain ⟨lx, hlx⟩ := rows_bools Try.underlying4 (by kernel_rfl) hRx
      have hmq : cq ≤ 140737488355328 := by
        have h1 := hz1 _ _ _ _ _ hdq
        have h2 := reachBytes_lt
        omega
      obtain ⟨lq, hlq⟩ := rows_bools Try.underlying4 (by kernel_rfl) hRq
      refine law_callsK (args := [.agg [.int .i64 sx, .int .i64 rx, .sl 0 0 kx cx, .int .i64 tx], .agg [.int .i64 sq, .int .i64 rq, .sl 1 0 kq cq, .int .i64 tq], .int .i64 gt, .int .i64 ig]) (ws := [(bx, ox, V.bools cx lx), (bq, oq, V.bools cq lq)]) Try.func4 (by kernel_rfl) (seen_cons (seen_bools hbx hlx) (seen_cons (seen_bools hbq hlq) seen_nil)) (fun μ' hμ => ?_) (anss_law sx rx tx kx cx cx lx sq rq tq kq cq cq lq gt ig hkx (by omega) hkq (by omega)) rfl (Nat.le_of_ble_eq_true (by kernel_rfl)) (by kernel_rfl)
      have e0 : μ' 0 = _ := hμ 0 (by simp [memW])
      have e1 : μ' 1 = _ := hμ 1 (by simp [memW])
      simp [V.den, V.dens, muW, e0, e1]

set_option maxRecDepth 100000 in
theorem lifted (os : Os) (started : os.Started) (H : Type) (enc : TypeId × Value → H) :
    ReturnsInHanded {} Try.checked os 4 .any (Rows.refundAnySpec.pre6 enc Try.prog Try.f4 Rows.refundAnyRow.domain false) (Rows.refundAnySpec.post enc Try.prog Try.f4 false true false false) := by
  refine returnsInHanded_of_change_sized (C := Try.checked) own started (by kernel_rfl) Try.func4
    (ChangeSpec.witness6 (enc := enc) (C := Try.checked) false ⟨#[], #[.agg #[.int .i64 0, .int .i64 0, .slice none 0 0, .int .i64 0], .agg #[.int .i64 0, .int .i64 0, .slice none 0 0, .int .i64 0], .int .i64 0, .int .i64 0], []⟩ 8 (by kernel_rfl) (by kernel_rfl) (by kernel_rfl) (by kernel_rfl)) ?_
  intro W base args ds gs before hval0 hW hcnd hsz _
  have hval : ∀ (j : Nat) t v, Try.f4.params[j]? = some t → args[j]? = some v → Value.okWide Try.prog W .any base t v := hval0
  have hW' := hW
  obtain ⟨p, q, hA0, hV, rfl, hfz, hnd⟩ := hW
  have hA : DataW.TrodAll enc Try.prog W 0 (fun _ => true) true Try.f4.params.toList args.toList ds p := hA0
  rw [Try.params4] at hA hval
  obtain ⟨v0, vs0, d0, ds0, p0, q0, hargs, rfl, rfl, h0, r0⟩ := trodAll_cons hA
  obtain ⟨v1, vs1, d1, ds1, p1, q1, rfl, rfl, rfl, h1, r1⟩ := trodAll_cons r0
  obtain ⟨v2, vs2, d2, ds2, p2, q2, rfl, rfl, rfl, h2, r2⟩ := trodAll_cons r1
  obtain ⟨v3, vs3, d3, ds3, p3, q3, rfl, rfl, rfl, h3, r3⟩ := trodAll_cons r2
  obtain ⟨rfl, rfl, rfl⟩ := trodAll_nil r3
  obtain rfl : args = #[v0, v1, v2, v3] := by cases args; simp_all
  obtain ⟨rfl, rfl⟩ := trodVars_none hV
  have hz0 : ∀ el sp x0 x1 x3, d0 = DataW.agg [x0, x1, DataW.slice el sp, x3] → (el.length + sp.length) * 1 ≤ reachBytes := by
    intro el sp x0 x1 x3 hd
    have := sized_carnet (j := 0) hsz rfl (by rw [hd]; rfl) Try.underlying27 Try.underlying25
    rwa [show Try.checked.prog.bytesOf 4 = 1 by kernel_rfl] at this
  have hz1 : ∀ el sp x0 x1 x3, d1 = DataW.agg [x0, x1, DataW.slice el sp, x3] → (el.length + sp.length) * 1 ≤ reachBytes := by
    intro el sp x0 x1 x3 hd
    have := sized_carnet (j := 1) hsz rfl (by rw [hd]; rfl) Try.underlying27 Try.underlying25
    rwa [show Try.checked.prog.bytesOf 4 = 1 by kernel_rfl] at this
  have hlt := hW'.lt
  have hcall := walk (hval 0 27 v0 rfl rfl) h0 (hval 1 27 v1 rfl rfl) h1 (hval 2 3 v2 rfl rfl) h2 (hval 3 3 v3 rfl rfl) h3 hz0 hz1
  refine hcall.mono fun e W' ⟨he, hb⟩ => ?_
  subst he
  exact ⟨_, rfl, post_law (pv := []) hW' (trodAll_cons_mk (shut_bool Try.underlying4 _) trodAll_mk0) (trodAll_cons_mk (Below.trod laidOut (by kernel_rfl) (of_decide_eq_true (by kernel_rfl)) h0 hb (fun x hx => hlt x (by simp [hx]))) (trodAll_cons_mk (Below.trod laidOut (by kernel_rfl) (of_decide_eq_true (by kernel_rfl)) h1 hb (fun x hx => hlt x (by simp [hx]))) (trodAll_cons_mk (Below.trod laidOut (by kernel_rfl) (of_decide_eq_true (by kernel_rfl)) h2 hb (fun x hx => hlt x (by simp [hx]))) (trodAll_cons_mk (Below.trod laidOut (by kernel_rfl) (of_decide_eq_true (by kernel_rfl)) h3 hb (fun x hx => hlt x (by simp [hx]))) trodAll_mk0)))) rfl hb⟩

theorem over : Rows.refundAnyRow.holds Try.pinned (OpenSpec.ofChange Rows.refundAnySpec) :=
  OpenClaim.holds_of_wide 4 Try.f4 rfl rfl rfl rfl rfl rfl rfl ⟨rfl, rfl, rfl, rfl, rfl⟩ rfl rfl rfl rfl rfl (by kernel_rfl) Try.func4 (by kernel_rfl)
    (of_decide_eq_true (by kernel_rfl)) (by unfold Func.isWrapper; first | (rw [if_pos (by decide +kernel)]; kernel_rfl) | (rw [if_neg (by decide +kernel)]; exact ⟨rfl, rfl⟩))
    (fun os started H enc _ => lifted os started H enc)

theorem proved : Rows.RefundAnySaid := over

#print axioms proved
end Go.Proofs.Ytomipglebaaagaa.refundAny
