/- RefundLattice: for every input the law answers true, and the input reads as before. Conditions: none. -/
import Derived.Test.YtomipglebaaagaaRD
import Derived.Test.YtomipglebaaagaaFvQ
import Derived.Test.YtomipglebaaagaaRows
namespace Go.Proofs.Ytomipglebaaagaa.refundLattice
open Go.ChangeShapes Go.WideShapes Go.ChangeAt Go.RowKit Go.Ev
set_option linter.unusedVariables false
set_option linter.unusedSimpArgs false

theorem own : ownKnob Try.prog.godebug = none := by kernel_rfl
theorem laidOut : laidOutB Try.prog = true := by kernel_rfl

theorem walk {H : Type} {enc : TypeId × Value → H} {W : World} {base : Nat} {v0 v1 v2 v3 v4 : Value} {d0 d1 d2 d3 d4 : DataW H} {p0 p1 p2 p3 p4 : List MemPlace} (hv0 : Value.okWide Try.prog W .any base 3 v0) (h0 : DataW.Trod enc Try.prog W 0 (fun _ => true) true 3 v0 d0 p0) (hv1 : Value.okWide Try.prog W .any base 3 v1) (h1 : DataW.Trod enc Try.prog W 0 (fun _ => true) true 3 v1 d1 p1) (hv2 : Value.okWide Try.prog W .any base 22 v2) (h2 : DataW.Trod enc Try.prog W 0 (fun _ => true) true 22 v2 d2 p2) (hv3 : Value.okWide Try.prog W .any base 22 v3) (h3 : DataW.Trod enc Try.prog W 0 (fun _ => true) true 22 v3 d3 p3) (hv4 : Value.okWide Try.prog W .any base 22 v4) (h4 : DataW.Trod enc Try.prog W 0 (fun _ => true) true 22 v4 d4 p4) (hz2 : ∀ el sp, d2 = DataW.slice el sp → (el.length + sp.length) * 16 ≤ reachBytes) (hz3 : ∀ el sp, d3 = DataW.slice el sp → (el.length + sp.length) * 16 ≤ reachBytes) (hz4 : ∀ el sp, d4 = DataW.slice el sp → (el.length + sp.length) * 16 ≤ reachBytes) : Calls Try.prog 6 #[v0, v1, v2, v3, v4] W fun e W' => e = .returned (.bool true) ∧ Below W.heap.size W W' := by
  obtain ⟨r, rfl, _, _, w0⟩ := open_int Try.underlying3 hv0 h0
  obtain ⟨g, rfl, _, _, w1⟩ := open_int Try.underlying3 hv1 h1
  rcases open_rows Try.underlying22 hv2 h2 with rfl | ⟨ba, oa, ka, ca, rfl, hba, hka, ⟨ela, spa, hda, hma⟩, hRa⟩
  · rcases open_rows Try.underlying22 hv3 h3 with rfl | ⟨bb, ob, kb, cb, rfl, hbb, hkb, ⟨elb, spb, hdb, hmb⟩, hRb⟩
    · rcases open_rows Try.underlying22 hv4 h4 with rfl | ⟨bc, oc, kc, cc, rfl, hbc, hkc, ⟨elc, spc, hdc, hmc⟩, hRc⟩
      · refine law_callsW (args := [.int .i64 r, .int .i64 g, .snil, .snil, .snil]) (ws := []) hM c10_ok GL_ok Try.func6 (by kernel_rfl) seen_nil (fun μ' hμ => ?_) (lat_nnn r g) (by kernel_rfl)
        simp [V.den, muW]
      · have hmc : cc ≤ 8796093022208 := by
          have h1 := hz4 _ _ hdc
          have h2 := reachBytes_lt
          omega
        obtain ⟨lc, hlc⟩ := rows_pairs Try.underlying32 (by kernel_rfl) (by kernel_rfl) ⟨rfl, rfl, by kernel_rfl, by kernel_rfl⟩ (by kernel_rfl) hRc
        refine law_callsW (args := [.int .i64 r, .int .i64 g, .snil, .snil, .sl 0 0 kc cc]) (ws := [(bc, oc, V.ints .i64 (2 * cc) lc)]) hM c10_ok GL_ok Try.func6 (by kernel_rfl) (seen_cons (seen_ints hbc hlc) seen_nil) (fun μ' hμ => ?_) (lat_nns r g kc cc (2 * cc) lc (by omega) (by omega)) (by kernel_rfl)
        have e0 : μ' 0 = _ := hμ 0 (by simp [memW])
        simp [V.den, muW, e0]
    · rcases open_rows Try.underlying22 hv4 h4 with rfl | ⟨bc, oc, kc, cc, rfl, hbc, hkc, ⟨elc, spc, hdc, hmc⟩, hRc⟩
      · have hmb : cb ≤ 8796093022208 := by
          have h1 := hz3 _ _ hdb
          have h2 := reachBytes_lt
          omega
        obtain ⟨lb, hlb⟩ := rows_pairs Try.underlying32 (by kernel_rfl) (by kernel_rfl) ⟨rfl, rfl, by kernel_rfl, by kernel_rfl⟩ (by kernel_rfl) hRb
        refine law_callsW (args := [.int .i64 r, .int .i64 g, .snil, .sl 0 0 kb cb, .snil]) (ws := [(bb, ob, V.ints .i64 (2 * cb) lb)]) hM c10_ok GL_ok Try.func6 (by kernel_rfl) (seen_cons (seen_ints hbb hlb) seen_nil) (fun μ' hμ => ?_) (lat_nsn r g kb cb (2 * cb) lb (by omega) (by omega)) (by kernel_rfl)
        have e0 : μ' 0 = _ := hμ 0 (by simp [memW])
        simp [V.den, muW, e0]
      · have hmb : cb ≤ 8796093022208 := by
          have h1 := hz3 _ _ hdb
          have h2 := reachBytes_lt
          omega
        obtain ⟨lb, hlb⟩ := rows_pairs Try.underlying32 (by kernel_rfl) (by kernel_rfl) ⟨rfl, rfl, by kernel_rfl, by kernel_rfl⟩ (by kernel_rfl) hRb
        have hmc : cc ≤ 8796093022208 := by
          have h1 := hz4 _ _ hdc
          have h2 := reachBytes_lt
          omega
        obtain ⟨lc, hlc⟩ := rows_pairs Try.underlying32 (by kernel_rfl) (by kernel_rfl) ⟨rfl, rfl, by kernel_rfl, by kernel_rfl⟩ (by kernel_rfl) hRc
        refine law_callsW (args := [.int .i64 r, .int .i64 g, .snil, .sl 0 0 kb cb, .sl 1 0 kc cc]) (ws := [(bb, ob, V.ints .i64 (2 * cb) lb), (bc, oc, V.ints .i64 (2 * cc) lc)]) hM c10_ok GL_ok Try.func6 (by kernel_rfl) (seen_cons (seen_ints hbb hlb) (seen_cons (seen_ints hbc hlc) seen_nil)) (fun μ' hμ => ?_) (lat_nss r g kb cb (2 * cb) lb kc cc (2 * cc) lc (by omega) (by omega) (by omega) (by omega)) (by kernel_rfl)
        have e0 : μ' 0 = _ := hμ 0 (by simp [memW])
        have e1 : μ' 1 = _ := hμ 1 (by simp [memW])
        simp [V.den, muW, e0, e1]
  · rcases open_rows Try.underlying22 hv3 h3 with rfl | ⟨bb, ob, kb, cb, rfl, hbb, hkb, ⟨elb, spb, hdb, hmb⟩, hRb⟩
    · rcases open_rows Try.underlying22 hv4 h4 with rfl | ⟨bc, oc, kc, cc, rfl, hbc, hkc, ⟨elc, spc, hdc, hmc⟩, hRc⟩
      · have hma : ca ≤ 8796093022208 := by
          have h1 := hz2 _ _ hda
          have h2 := reachBytes_lt
          omega
        obtain ⟨la, hla⟩ := rows_pairs Try.underlying32 (by kernel_rfl) (by kernel_rfl) ⟨rfl, rfl, by kernel_rfl, by kernel_rfl⟩ (by kernel_rfl) hRa
        refine law_callsW (args := [.int .i64 r, .int .i64 g, .sl 0 0 ka ca, .snil, .snil]) (ws := [(ba, oa, V.ints .i64 (2 * ca) la)]) hM c10_ok GL_ok Try.func6 (by kernel_rfl) (seen_cons (seen_ints hba hla) seen_nil) (fun μ' hμ => ?_) (lat_snn r g ka ca (2 * ca) la (by omega) (by omega)) (by kernel_rfl)
        have e0 : μ' 0 = _ := hμ 0 (by simp [memW])
        simp [V.den, muW, e0]
      · have hma : ca ≤ 8796093022208 := by
          have h1 := hz2 _ _ hda
          have h2 := reachBytes_lt
          omega
        obtain ⟨la, hla⟩ := rows_pairs Try.underlying32 (by kernel_rfl) (by kernel_rfl) ⟨rfl, rfl, by kernel_rfl, by kernel_rfl⟩ (by kernel_rfl) hRa
        have hmc : cc ≤ 8796093022208 := by
          have h1 := hz4 _ _ hdc
          have h2 := reachBytes_lt
          omega
        obtain ⟨lc, hlc⟩ := rows_pairs Try.underlying32 (by kernel_rfl) (by kernel_rfl) ⟨rfl, rfl, by kernel_rfl, by kernel_rfl⟩ (by kernel_rfl) hRc
        refine law_callsW (args := [.int .i64 r, .int .i64 g, .sl 0 0 ka ca, .snil, .sl 1 0 kc cc]) (ws := [(ba, oa, V.ints .i64 (2 * ca) la), (bc, oc, V.ints .i64 (2 * cc) lc)]) hM c10_ok GL_ok Try.func6 (by kernel_rfl) (seen_cons (seen_ints hba hla) (seen_cons (seen_ints hbc hlc) seen_nil)) (fun μ' hμ => ?_) (lat_sns r g ka ca (2 * ca) la kc cc (2 * cc) lc (by omega) (by omega) (by omega) (by omega)) (by kernel_rfl)
        have e0 : μ' 0 = _ := hμ 0 (by simp [memW])
        have e1 : μ' 1 = _ := hμ 1 (by simp [memW])
        simp [V.den, muW, e0, e1]
    · rcases open_rows Try.underlying22 hv4 h4 with rfl | ⟨bc, oc, kc, cc, rfl, hbc, hkc, ⟨elc, spc, hdc, hmc⟩, hRc⟩
      · have hma : ca ≤ 8796093022208 := by
          have h1 := hz2 _ _ hda
          have h2 := reachBytes_lt
          omega
        obtain ⟨la, hla⟩ := rows_pairs Try.underlying32 (by kernel_rfl) (by kernel_rfl) ⟨rfl, rfl, by kernel_rfl, by kernel_rfl⟩ (by kernel_rfl) hRa
        have hmb : cb ≤ 8796093022208 := by
          have h1 := hz3 _ _ hdb
          have h2 := reachBytes_lt
          omega
        obtain ⟨lb, hlb⟩ := rows_pairs Try.underlying32 (by kernel_rfl) (by kernel_rfl) ⟨rfl, rfl, by kernel_rfl, by kernel_rfl⟩ (by kernel_rfl) hRb
        refine law_callsW (args := [.int .i64 r, .int .i64 g, .sl 0 0 ka ca, .sl 1 0 kb cb, .snil]) (ws := [(ba, oa, V.ints .i64 (2 * ca) la), (bb, ob, V.ints .i64 (2 * cb) lb)]) hM c10_ok GL_ok Try.func6 (by kernel_rfl) (seen_cons (seen_ints hba hla) (seen_cons (seen_ints hbb hlb) seen_nil)) (fun μ' hμ => ?_) (lat_ssn r g ka ca (2 * ca) la kb cb (2 * cb) lb (by omega) (by omega) (by omega) (by omega)) (by kernel_rfl)
        have e0 : μ' 0 = _ := hμ 0 (by simp [memW])
        have e1 : μ' 1 = _ := hμ 1 (by simp [memW])
        simp [V.den, muW, e0, e1]
      · have hma : ca ≤ 8796093022208 := by
          have h1 := hz2 _ _ hda
          have h2 := reachBytes_lt
          omega
        obtain ⟨la, hla⟩ := rows_pairs Try.underlying32 (by kernel_rfl) (by kernel_rfl) ⟨rfl, rfl, by kernel_rfl, by kernel_rfl⟩ (by kernel_rfl) hRa
        have hmb : cb ≤ 8796093022208 := by
          have h1 := hz3 _ _ hdb
          have h2 := reachBytes_lt
          omega
        obtain ⟨lb, hlb⟩ := rows_pairs Try.underlying32 (by kernel_rfl) (by kernel_rfl) ⟨rfl, rfl, by kernel_rfl, by kernel_rfl⟩ (by kernel_rfl) hRb
        have hmc : cc ≤ 8796093022208 := by
          have h1 := hz4 _ _ hdc
          have h2 := reachBytes_lt
          omega
        obtain ⟨lc, hlc⟩ := rows_pairs Try.underlying32 (by kernel_rfl) (by kernel_rfl) ⟨rfl, rfl, by kernel_rfl, by kernel_rfl⟩ (by kernel_rfl) hRc
        refine law_callsW (args := [.int .i64 r, .int .i64 g, .sl 0 0 ka ca, .sl 1 0 kb cb, .sl 2 0 kc cc]) (ws := [(ba, oa, V.ints .i64 (2 * ca) la), (bb, ob, V.ints .i64 (2 * cb) lb), (bc, oc, V.ints .i64 (2 * cc) lc)]) hM c10_ok GL_ok Try.func6 (by kernel_rfl) (seen_cons (seen_ints hba hla) (seen_cons (seen_ints hbb hlb) (seen_cons (seen_ints hbc hlc) seen_nil))) (fun μ' hμ => ?_) (lat_sss r g ka ca (2 * ca) la kb cb (2 * cb) lb kc cc (2 * cc) lc (by omega) (by omega) (by omega) (by omega) (by omega) (by omega)) (by kernel_rfl)
        have e0 : μ' 0 = _ := hμ 0 (by simp [memW])
        have e1 : μ' 1 = _ := hμ 1 (by simp [memW])
        have e2 : μ' 2 = _ := hμ 2 (by simp [memW])
        simp [V.den, muW, e0, e1, e2]

set_option maxRecDepth 100000 in
theorem lifted (os : Os) (started : os.Started) (H : Type) (enc : TypeId × Value → H) :
    ReturnsInHanded {} Try.checked os 6 .any (Rows.refundLatticeSpec.pre6 enc Try.prog Try.f6 Rows.refundLatticeRow.domain false) (Rows.refundLatticeSpec.post enc Try.prog Try.f6 false true false false) := by
  refine returnsInHanded_of_change_sized (C := Try.checked) own started (by kernel_rfl) Try.func6
    (ChangeSpec.witness6 (enc := enc) (C := Try.checked) false ⟨#[], #[.int .i64 0, .int .i64 0, .slice none 0 0, .slice none 0 0, .slice none 0 0], []⟩ 8 (by kernel_rfl) (by kernel_rfl) (by kernel_rfl) (by kernel_rfl)) ?_
  intro W base args ds gs before hval0 hW hcnd hsz _
  have hval : ∀ (j : Nat) t v, Try.f6.params[j]? = some t → args[j]? = some v → Value.okWide Try.prog W .any base t v := hval0
  have hW' := hW
  obtain ⟨p, q, hA0, hV, rfl, hfz, hnd⟩ := hW
  have hA : DataW.TrodAll enc Try.prog W 0 (fun _ => true) true Try.f6.params.toList args.toList ds p := hA0
  rw [Try.params6] at hA hval
  obtain ⟨v0, vs0, d0, ds0, p0, q0, hargs, rfl, rfl, h0, r0⟩ := trodAll_cons hA
  obtain ⟨v1, vs1, d1, ds1, p1, q1, rfl, rfl, rfl, h1, r1⟩ := trodAll_cons r0
  obtain ⟨v2, vs2, d2, ds2, p2, q2, rfl, rfl, rfl, h2, r2⟩ := trodAll_cons r1
  obtain ⟨v3, vs3, d3, ds3, p3, q3, rfl, rfl, rfl, h3, r3⟩ := trodAll_cons r2
  obtain ⟨v4, vs4, d4, ds4, p4, q4, rfl, rfl, rfl, h4, r4⟩ := trodAll_cons r3
  obtain ⟨rfl, rfl, rfl⟩ := trodAll_nil r4
  obtain rfl : args = #[v0, v1, v2, v3, v4] := by cases args; simp_all
  obtain ⟨rfl, rfl⟩ := trodVars_none hV
  have hz2 : ∀ el sp, d2 = DataW.slice el sp → (el.length + sp.length) * 16 ≤ reachBytes := by
    intro el sp hd
    have := sized_slice (j := 2) hsz rfl (by rw [hd]; rfl) Try.underlying22
    rwa [show Try.checked.prog.bytesOf 32 = 16 by kernel_rfl] at this
  have hz3 : ∀ el sp, d3 = DataW.slice el sp → (el.length + sp.length) * 16 ≤ reachBytes := by
    intro el sp hd
    have := sized_slice (j := 3) hsz rfl (by rw [hd]; rfl) Try.underlying22
    rwa [show Try.checked.prog.bytesOf 32 = 16 by kernel_rfl] at this
  have hz4 : ∀ el sp, d4 = DataW.slice el sp → (el.length + sp.length) * 16 ≤ reachBytes := by
    intro el sp hd
    have := sized_slice (j := 4) hsz rfl (by rw [hd]; rfl) Try.underlying22
    rwa [show Try.checked.prog.bytesOf 32 = 16 by kernel_rfl] at this
  have hlt := hW'.lt
  have hcall := walk (hval 0 3 v0 rfl rfl) h0 (hval 1 3 v1 rfl rfl) h1 (hval 2 22 v2 rfl rfl) h2 (hval 3 22 v3 rfl rfl) h3 (hval 4 22 v4 rfl rfl) h4 hz2 hz3 hz4
  refine hcall.mono fun e W' ⟨he, hb⟩ => ?_
  subst he
  exact ⟨_, rfl, post_law (pv := []) hW' (trodAll_cons_mk (shut_bool Try.underlying4 _) trodAll_mk0) (trodAll_cons_mk (Below.trod laidOut (by kernel_rfl) (of_decide_eq_true (by kernel_rfl)) h0 hb (fun x hx => hlt x (by simp [hx]))) (trodAll_cons_mk (Below.trod laidOut (by kernel_rfl) (of_decide_eq_true (by kernel_rfl)) h1 hb (fun x hx => hlt x (by simp [hx]))) (trodAll_cons_mk (Below.trod laidOut (by kernel_rfl) (of_decide_eq_true (by kernel_rfl)) h2 hb (fun x hx => hlt x (by simp [hx]))) (trodAll_cons_mk (Below.trod laidOut (by kernel_rfl) (of_decide_eq_true (by kernel_rfl)) h3 hb (fun x hx => hlt x (by simp [hx]))) (trodAll_cons_mk (Below.trod laidOut (by kernel_rfl) (of_decide_eq_true (by kernel_rfl)) h4 hb (fun x hx => hlt x (by simp [hx]))) trodAll_mk0))))) rfl hb⟩

theorem over : Rows.refundLatticeRow.holds Try.pinned (OpenSpec.ofChange Rows.refundLatticeSpec) :=
  OpenClaim.holds_of_wide 6 Try.f6 rfl rfl rfl rfl rfl rfl rfl ⟨rfl, rfl, rfl, rfl, rfl⟩ rfl rfl rfl rfl rfl (by kernel_rfl) Try.func6 (by kernel_rfl)
    (of_decide_eq_true (by kernel_rfl)) (by unfold Func.isWrapper; first | (rw [if_pos (by decide +kernel)]; kernel_rfl) | (rw [if_neg (by decide +kernel)]; exact ⟨rfl, rfl⟩))
    (fun os started H enc _ => lifted os started H enc)

theorem proved : Rows.RefundLatticeSaid := over

#print axioms proved
end Go.Proofs.Ytomipglebaaagaa.refundLattice
