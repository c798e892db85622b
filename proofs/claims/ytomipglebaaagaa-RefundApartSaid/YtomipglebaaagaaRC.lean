/-
  within, counts, Begin, Join of two that go together: contracts. Conditions: none.
-/
import Derived.Test.YtomipglebaaagaaRB
namespace Go.Proofs.Ytomipglebaaagaa
open Go.Ev
set_option linter.unusedVariables false
noncomputable def wiO : Int → Int → Bool := Classical.choose (hide_ex (fun r g => decide (1 ≤ r ∧ r ≤ 4096 ∧ 1 ≤ g ∧ g ≤ 16)))
theorem wiO_eq : wiO = (fun r g => decide (1 ≤ r ∧ r ≤ 4096 ∧ 1 ≤ g ∧ g ≤ 16)) := Classical.choose_spec (hide_ex (fun r g => decide (1 ≤ r ∧ r ≤ 4096 ∧ 1 ≤ g ∧ g ≤ 16)))
noncomputable def begO : Int → Int → Int → Bool := Classical.choose (hide_ex (fun s r g => decide (1 ≤ s ∧ 1 ≤ r ∧ r ≤ 4096 ∧ 1 ≤ g ∧ g ≤ 16)))
theorem begO_eq : begO = (fun s r g => decide (1 ≤ s ∧ 1 ≤ r ∧ r ≤ 4096 ∧ 1 ≤ g ∧ g ≤ 16)) := Classical.choose_spec (hide_ex (fun s r g => decide (1 ≤ s ∧ 1 ≤ r ∧ r ≤ 4096 ∧ 1 ≤ g ∧ g ≤ 16)))
theorem wi_t (r g : Int) (R : V) : awp Try.prog orc0 noG 1200 (body Try.f9) (ends Try.prog Try.f9 fun v _ => okV R v) ⟨[(V.int .i64 r), (V.int .i64 g)] ++ List.replicate 17 V.un, []⟩ = (mB (decide (r ≥ 1)) (mB (decide (r ≤ 4096)) (mB (decide (g ≥ 1)) (okV R (V.bool (decide (g ≤ 16)))) (okV R (V.bool false))) (okV R (V.bool false))) (okV R (V.bool false))) := by kernel_rfl
theorem wi_a (r g : Int) : awp Try.prog orc0 noG 1200 (body Try.f9) (ends Try.prog Try.f9 fun v _ => okV (V.bool (wiO r g)) v) ⟨[V.int .i64 r, V.int .i64 g] ++ List.replicate 17 V.un, []⟩ := by
  rw [wi_t, wiO_eq]
  dsimp only
  refine mBt (fun h1 => mBt (fun h2 => mBt (fun h3 => okV_bool ?_) (fun h3 => okV_bool ?_)) (fun h2 => okV_bool ?_)) (fun h1 => okV_bool ?_)
  · have h1 := of_decide_eq_true h1; have h2 := of_decide_eq_true h2; have h3 := of_decide_eq_true h3
    rw [decide_eq_decide]; omega
  · have h3 := of_decide_eq_false h3
    exact (decide_eq_false (by omega)).symm
  · have h2 := of_decide_eq_false h2
    exact (decide_eq_false (by omega)).symm
  · have h1 := of_decide_eq_false h1
    exact (decide_eq_false (by omega)).symm
noncomputable def g9 : List V → Option (Bool × V) := fun | [.int .i64 r, .int .i64 g] => some (true, V.bool (wiO r g)) | _ => none
theorem g9_ok (vs : List V) (v : V) (h : g9 vs = some (true, v)) : (∀ μ μ', v.den μ' = v.den μ) ∧ ∀ μ w, PureAt Try.prog 9 (vs.map (V.den μ)).toArray (v.den μ) w := by
  unfold g9 at h
  split at h
  · simp only [Option.some.injEq, Prod.mk.injEq, true_and] at h
    subst h
    exact pure_ok (F := orc0) (N := 1200) (fn := Try.f9) (args := [_, _]) (r := _) (n := 17) hM orc0_ok (noG_ok _) Try.func9 (by kernel_rfl) (by kernel_rfl) (by kernel_rfl) (by kernel_rfl) (wi_a _ _) (by kernel_rfl)
  · cases h
noncomputable def w9 : Orc := ext 9 g9 o13
theorem w9_ok : OrcOK Try.prog w9 := ext_ok o13_ok g9_ok
def GC : GOrc := inl Try.prog orc0 1200 11 Try.f11 GA
theorem GC_ok : GOrcOK Try.prog GC := inl_ok hM orc0_ok GA_ok Try.func11 (by kernel_rfl) (by kernel_rfl)
theorem cnt_t (R : V) : awp Try.prog o13 GC 1200 (body Try.f10) (ends Try.prog Try.f10 fun v _ => okV R v) ⟨[] ++ List.replicate 54 V.un, []⟩ = (gB ((Nat.ble (0 + (Nat.min 2 2 * 1)) 2 && (Nat.beq (Nat.min 2 2 * 1) (Nat.min 2 2 * 1) && Nat.ble (0 + (Nat.min 2 2 * 1)) 2)) && true) (gB (Nat.blt 1 2) (gB ((Nat.ble (0 + (Nat.min 2 2 * 1)) 2 && (Nat.beq (Nat.min 2 2 * 1) (Nat.min 2 2 * 1) && Nat.ble (0 + (Nat.min 2 2 * 1)) 2)) && true) (gB (Nat.blt 0 2) (gB (Nat.ble 2 2 && Nat.ble 2 1100) (mB ((cond (donO (up 0 true (spl 0 (Nat.min 2 2 * 1) 2 (sh 0 (up 1 true (spl 0 (Nat.min 2 2 * 1) 2 (sh 0 (fun _ => false)) (fun _ => false)))) (fun _ => false))) 2) (0 : Int) 211) == 0) (mB ((cond (donO (up 0 true (spl 0 (Nat.min 2 2 * 1) 2 (sh 0 (up 1 true (spl 0 (Nat.min 2 2 * 1) 2 (sh 0 (fun _ => false)) (fun _ => false)))) (fun _ => false))) 2) (subI .i64 9 4) (0 : Int)) == 5) (gB (Nat.ble 2 2 && Nat.ble 2 1100) (mB (!(donO (up 1 true (spl 0 (Nat.min 2 2 * 1) 2 (sh 0 (fun _ => false)) (fun _ => false))) 2)) (gB (Nat.ble 2 2 && Nat.ble 2 1100) (okV R (V.bool (donO (up 0 true (spl 0 (Nat.min 2 2 * 1) 2 (sh 0 (up 1 true (spl 0 (Nat.min 2 2 * 1) 2 (sh 0 (fun _ => false)) (fun _ => false)))) (fun _ => false))) 2)))) (okV R (V.bool false)))) (okV R (V.bool false))) (okV R (V.bool false)))))))) := by kernel_rfl
theorem cnt_a : awp Try.prog o13 GC 1200 (body Try.f10) (ends Try.prog Try.f10 fun v _ => okV (V.bool true) v) ⟨[] ++ List.replicate 54 V.un, []⟩ := by
  rw [cnt_t, donO_eq]
  exact gm (by decide) (gm (by decide) (gm (by decide) (gm (by decide) (gm (by decide) (mBt (fun _ => mBt (fun _ => gm (by decide) (mBt (fun _ => gm (by decide) (okV_bool (by decide))) (fun h => absurd h (by decide)))) (fun h => absurd h (by decide))) (fun h => absurd h (by decide)))))))
def g10 : List V → Option (Bool × V) := fun | [] => some (true, V.bool true) | _ => none
theorem g10_ok (vs : List V) (v : V) (h : g10 vs = some (true, v)) : (∀ μ μ', v.den μ' = v.den μ) ∧ ∀ μ w, PureAt Try.prog 10 (vs.map (V.den μ)).toArray (v.den μ) w := by
  unfold g10 at h
  split at h
  · simp only [Option.some.injEq, Prod.mk.injEq, true_and] at h
    subst h
    exact pure_ok (F := o13) (N := 1200) (fn := Try.f10) (args := []) (r := _) (n := 54) hM o13_ok GC_ok Try.func10 (by kernel_rfl) (by kernel_rfl) (by kernel_rfl) (by kernel_rfl) cnt_a (by kernel_rfl)
  · cases h
noncomputable def c10 : Orc := ext 10 g10 w9
theorem c10_ok : OrcOK Try.prog c10 := ext_ok w9_ok g10_ok
theorem beg_t (s r g : Int) (K : V → List V → Prop) : awq Try.prog orc0 noG 0 1200 (body Try.f11) (ends Try.prog Try.f11 K) ⟨[(V.int .i64 s), (V.int .i64 r), (V.int .i64 g)] ++ List.replicate 29 V.un, []⟩ = (mB (decide (s < 1)) (K (V.tup [(V.agg [(V.int .i64 0), (V.int .i64 0), V.snil, (V.int .i64 0)]), (V.bool false)]) [(V.agg [(V.int .i64 0), (V.int .i64 0), V.snil, (V.int .i64 0)])]) (mB (decide (r < 1)) (K (V.tup [(V.agg [(V.int .i64 0), (V.int .i64 0), V.snil, (V.int .i64 0)]), (V.bool false)]) [(V.agg [(V.int .i64 0), (V.int .i64 0), V.snil, (V.int .i64 0)])]) (mB (decide (r > 4096)) (K (V.tup [(V.agg [(V.int .i64 0), (V.int .i64 0), V.snil, (V.int .i64 0)]), (V.bool false)]) [(V.agg [(V.int .i64 0), (V.int .i64 0), V.snil, (V.int .i64 0)])]) (mB (decide (g < 1)) (K (V.tup [(V.agg [(V.int .i64 0), (V.int .i64 0), V.snil, (V.int .i64 0)]), (V.bool false)]) [(V.agg [(V.int .i64 0), (V.int .i64 0), V.snil, (V.int .i64 0)])]) (mB (decide (g > 16)) (K (V.tup [(V.agg [(V.int .i64 0), (V.int .i64 0), V.snil, (V.int .i64 0)]), (V.bool false)]) [(V.agg [(V.int .i64 0), (V.int .i64 0), V.snil, (V.int .i64 0)])]) (gB ((Nat.ble (1 * (Int.toNat g)) 281474976710656 && decide (0 ≤ g)) && decide (0 ≤ g ∧ g ≤ g ∧ g ≤ 16777216)) (K (V.tup [(V.agg [(V.int .i64 s), (V.int .i64 r), (V.sl 1 0 (Int.toNat g) (Int.toNat g)), (V.int .i64 0)]), (V.bool true)]) [(V.agg [(V.int .i64 s), (V.int .i64 r), (V.sl 1 0 (Int.toNat g) (Int.toNat g)), (V.int .i64 0)]), (V.bools (Int.toNat g) (fun _ => false))]))))))) := by kernel_rfl
def begD (s r g : Int) : MadeB := ⟨Int.toNat g, fun _ => false, fun id => .tup [.agg [.int .i64 s, .int .i64 r, .sl id 0 (Int.toNat g) (Int.toNat g), .int .i64 0], .bool true]⟩
theorem beg_a {s r g : Int} (h : begO s r g = true) : awq Try.prog orc0 noG 0 1200 (body Try.f11) (ends Try.prog Try.f11 fun v m => altK false .snil (begD s r g) v m) ⟨[V.int .i64 s, V.int .i64 r, V.int .i64 g] ++ List.replicate 29 V.un, []⟩ := by
  rw [beg_t]
  rw [begO_eq] at h
  have h := of_decide_eq_true h
  refine mBt (fun e => absurd (of_decide_eq_true e) (by omega)) (fun _ => mBt (fun e => absurd (of_decide_eq_true e) (by omega)) (fun _ => mBt (fun e => absurd (of_decide_eq_true e) (by omega)) (fun _ => mBt (fun e => absurd (of_decide_eq_true e) (by omega)) (fun _ => mBt (fun e => absurd (of_decide_eq_true e) (by omega)) (fun _ => gm ?_ ?_)))))
  · rw [bleT.2 (by omega), decide_eq_true (by omega), decide_eq_true (by omega)]; rfl
  · exact .inr ⟨rfl, _, _, rfl, by rfl, fun _ _ => rfl⟩
noncomputable def G11 (G : GOrc) : GOrc := extG 11 (fun vs m K => match vs with
  | [.int .i64 s, .int .i64 r, .int .i64 g] => gB (begO s r g) (K (.tup [.agg [.int .i64 s, .int .i64 r, .sl m.length 0 (Int.toNat g) (Int.toNat g), .int .i64 0], .bool true]) (m ++ [.bools (Int.toNat g) (fun _ => false)]))
  | _ => False) G
theorem G11_ok {G : GOrc} (hG : GOrcOK Try.prog G) : GOrcOK Try.prog (G11 G) := by
  refine extG_ok hG fun vs m K h => ?_
  split at h
  · rename_i s r g
    obtain ⟨h1, h⟩ := gB_t h
    exact alts_awq (fn := Try.f11) (N := 1200) (n := 29) (gs := []) (b := false) (r := .snil) (d := begD s r g) hM orc0_ok (noG_ok _) Try.func11 (by kernel_rfl) (by kernel_rfl) (by rfl) rfl (fun _ => rfl) (fun μ μ' i i' hi => by simp [begD, V.den, V.dens, hi]) (fun ρ i => rfl) (beg_a h1) (by kernel_rfl) (by kernel_rfl) (fun hb => by cases hb) (fun _ => h)
  · exact h.elim
noncomputable def G20s (G : GOrc) : GOrc := extG 20 (fun vs m K => match views [] vs m with
  | some ([.agg [.int .i64 s, .int .i64 r, .sl 0 0 n c, .int .i64 t], .agg [.int .i64 sb, .int .i64 rb, .sl 1 0 n2 c2, .int .i64 tb]], [.tup [.bools xN f], .tup [.bools yN f2]]) => gB (((Nat.ble n xN && Nat.ble n2 yN) && Nat.ble n 1100) && !(joO s r n sb rb n2)) (K (.tup [.agg [.int .i64 s, .int .i64 r, .sl m.length 0 n n, .int .i64 (maxI t tb)], .int .i64 0]) (m ++ [.bools n (orB f f2)]))
  | _ => False) G
theorem G20s_ok {G : GOrc} (hG : GOrcOK Try.prog G) : GOrcOK Try.prog (G20s G) := by
  refine extG_ok hG fun vs m K h => ?_
  split at h
  · rename_i s r n c t sb rb n2 c2 tb xN f yN f2 hv
    obtain ⟨hg, h⟩ := gB_t h
    simp only [Bool.and_eq_true, Bool.not_eq_true'] at hg
    obtain ⟨⟨⟨h1, h2⟩, h3⟩, h4⟩ := hg
    exact alts_awq (fn := Try.f20) (N := 1200) (n := 59) (r := joR) (d := joD s r t tb n f f2) hM orc0_ok GO_ok Try.func20 (by kernel_rfl) (by kernel_rfl) hv rfl (fun _ => rfl) (fun μ μ' i i' hi => by simp [joD, V.den, V.dens, hi]) (fun ρ i => rfl) (joi_all (bleT.1 h1) (bleT.1 h2) (bleT.1 h3)) (by kernel_rfl) (by kernel_rfl) (fun hb => by rw [h4] at hb; cases hb) (fun _ => h)
  · exact h.elim
/-- What the laws on joins reach. -/
noncomputable def GL : GOrc := inl Try.prog c10 1200 31 Try.f31 (G20s (G30 (G11 noG)))
theorem GL_ok : GOrcOK Try.prog GL := inl_ok hM c10_ok (G20s_ok (G30_ok (G11_ok (noG_ok _)))) Try.func31 (by kernel_rfl) (by kernel_rfl)
end Go.Proofs.Ytomipglebaaagaa
