/-
  A part of the groundwork of this seat's claims: an evaluator over the program, walks, and plain mathematics. Conditions: none.
-/
import Derived.Test.YtbnclikjbnfodaaY07
namespace Go.Proofs.Ytbnclikjbnfodaa
open Go.Ev
/- fareboxlaw07.CurveDecodes -/
noncomputable def lawDecodes (b : (Nat → Int)) : Bool := (cond (!((decodePO b).2 == (rDecodePO b).2)) false (cond (!(decodePO b).2) (eqN 20 (decodePO b).1 (fun _ => 0)) (cond (isPO (decodePO b).1 (rDecodePO b).1) (eqN 32 (encodePO (decodePO b).1) b) false)))
theorem lawDecodes_t (b : (Nat → Int)) : awp Try.prog o56O noG 300 (body Try.f13) (ends Try.prog Try.f13 fun v _ => okV (V.bool (lawDecodes b)) v) ⟨[(V.ints .u8 32 b)] ++ List.replicate 33 V.un, []⟩ = (mB (!((decodePO b).2 == (rDecodePO b).2)) ((V.bool false).den z0 = (V.bool (lawDecodes b)).den z0) (mB (!(decodePO b).2) ((V.bool (eqN 20 (decodePO b).1 (fun _ => 0))).den z0 = (V.bool (lawDecodes b)).den z0) (mB (isPO (decodePO b).1 (rDecodePO b).1) ((V.bool (eqN 32 (encodePO (decodePO b).1) b)).den z0 = (V.bool (lawDecodes b)).den z0) ((V.bool false).den z0 = (V.bool (lawDecodes b)).den z0)))) := by kernel_rfl
theorem lawDecodes_a (b : (Nat → Int)) : awp Try.prog o56O noG 300 (body Try.f13) (ends Try.prog Try.f13 fun v _ => okV (V.bool (lawDecodes b)) v) ⟨[(V.ints .u8 32 b)] ++ List.replicate 33 V.un, []⟩ := by
  rw [lawDecodes_t]
  refine mBt (fun h1 => ?_) (fun h1 => ?_)
  · simp only [lawDecodes, h1, cond_true]
  · refine mBt (fun h2 => ?_) (fun h2 => ?_)
    · simp only [lawDecodes, h1, h2, cond_true, cond_false]
    · refine mBt (fun h3 => ?_) (fun h3 => ?_)
      · simp only [lawDecodes, h1, h2, h3, cond_true, cond_false]
      · simp only [lawDecodes, h1, h2, h3, cond_false]
noncomputable def g13 : List V → Option (Bool × V) := fun | [.ints .u8 32 b] => some (true, (V.bool (lawDecodes b))) | _ => none
theorem lawDecodes_p (b : (Nat → Int)) : (∀ μ μ', V.den μ' (V.bool (lawDecodes b)) = V.den μ (V.bool (lawDecodes b))) ∧ ∀ μ w, PureAt Try.prog 13 (([(V.ints .u8 32 b)] : List V).map (V.den μ)).toArray (V.den μ (V.bool (lawDecodes b))) w :=
  pure_ok (F := o56O) (N := 300) (fn := Try.f13) (args := [(V.ints .u8 32 b)]) (r := (V.bool (lawDecodes b))) (n := 33) hM o56O_ok (noG_ok _) Try.func13 (by kernel_rfl) (by kernel_rfl) (by kernel_rfl) (by kernel_rfl) (lawDecodes_a b) (by kernel_rfl)
theorem g13_ok (vs : List V) (v : V) (h : g13 vs = some (true, v)) : (∀ μ μ', v.den μ' = v.den μ) ∧ ∀ μ w, PureAt Try.prog 13 (vs.map (V.den μ)).toArray (v.den μ) w := by
  unfold g13 at h
  split at h
  · simp only [Option.some.injEq, Prod.mk.injEq, true_and] at h
    subst h
    exact lawDecodes_p _
  · simp at h
noncomputable def o13 : Orc := ext 13 g13 o56O
theorem o13_ok : OrcOK Try.prog o13 := ext_ok o56O_ok g13_ok
end Go.Proofs.Ytbnclikjbnfodaa

/-
  CurveDecodes answers true. Conditions: none.
-/
namespace Go.Proofs.Ytbnclikjbnfodaa
open Go.Ev Go.Num

theorem decodes_true {b : Nat → Int} (hb : B32 b) : lawDecodes b = true := by
  unfold lawDecodes
  rcases decE hb with ⟨A, h1, h2, h3⟩ | ⟨h1, h2, h3⟩
  · rcases decJ hb with ⟨B, g1, g2, g3⟩ | ⟨g1, g3⟩
    · obtain ⟨e1, e2⟩ := encE h2
      have e : A = B := en_inj (by rw [← h3, g3])
      rw [h1, g1, (isP_iff h2 g2).2 e, vb_inj e1 hb, e2, h3]
      simp
    · exact absurd h3 (g3 A)
  · rcases decJ hb with ⟨B, g1, g2, g3⟩ | ⟨g1, g3⟩
    · exact absurd g3 (h3 B)
    · rw [h1, g1, h2]
      have : eqN 20 (fun _ => 0) (fun _ => 0) = true := eqN_iff.2 fun _ _ => rfl
      rw [this]
      rfl
end Go.Proofs.Ytbnclikjbnfodaa

namespace Go.Proofs.Ytbnclikjbnfodaa
open Go.Ev
/- fareboxlaw07.CurveMuls -/
noncomputable def lawMuls (key : (Nat → Int)) (a : (Nat → Int)) (b : (Nat → Int)) : Bool := (cond (!livesO) false (cond (sumFO a b).2 (cond (!(equalPO (addPO (mulPO a (pointPO key)) (mulPO b (pointPO key))) (mulPO (sumFO a b).1 (pointPO key)))) false (cond (!(equalPO (mulPO b (mulPO a (pointPO key))) (mulPO a (mulPO b (pointPO key))))) false (cond (!(onPO (mulPO a (pointPO key)))) false (cond (equalPO (mulBasePO b) (mulPO b basePO)) (equalPO (combinePO a (pointPO key) b) (addPO (mulPO a (pointPO key)) (mulBasePO b))) false)))) (cond (!(equalPO (mulPO b (mulPO a (pointPO key))) (mulPO a (mulPO b (pointPO key))))) false (cond (!(onPO (mulPO a (pointPO key)))) false (cond (equalPO (mulBasePO b) (mulPO b basePO)) (equalPO (combinePO a (pointPO key) b) (addPO (mulPO a (pointPO key)) (mulBasePO b))) false)))))
theorem lawMuls_t (key : (Nat → Int)) (a : (Nat → Int)) (b : (Nat → Int)) : awp Try.prog o74O noG 300 (body Try.f19) (ends Try.prog Try.f19 fun v _ => okV (V.bool (lawMuls key a b)) v) ⟨[(V.ints .u8 32 key), (V.ints .u8 32 a), (V.ints .u8 32 b)] ++ List.replicate 67 V.un, []⟩ = (mB (!livesO) ((V.bool false).den z0 = (V.bool (lawMuls key a b)).den z0) (mB (sumFO a b).2 (mB (!(equalPO (addPO (mulPO a (pointPO key)) (mulPO b (pointPO key))) (mulPO (sumFO a b).1 (pointPO key)))) ((V.bool false).den z0 = (V.bool (lawMuls key a b)).den z0) (mB (!(equalPO (mulPO b (mulPO a (pointPO key))) (mulPO a (mulPO b (pointPO key))))) ((V.bool false).den z0 = (V.bool (lawMuls key a b)).den z0) (mB (!(onPO (mulPO a (pointPO key)))) ((V.bool false).den z0 = (V.bool (lawMuls key a b)).den z0) (mB (equalPO (mulBasePO b) (mulPO b basePO)) ((V.bool (equalPO (combinePO a (pointPO key) b) (addPO (mulPO a (pointPO key)) (mulBasePO b)))).den z0 = (V.bool (lawMuls key a b)).den z0) ((V.bool false).den z0 = (V.bool (lawMuls key a b)).den z0))))) (mB (!(equalPO (mulPO b (mulPO a (pointPO key))) (mulPO a (mulPO b (pointPO key))))) ((V.bool false).den z0 = (V.bool (lawMuls key a b)).den z0) (mB (!(onPO (mulPO a (pointPO key)))) ((V.bool false).den z0 = (V.bool (lawMuls key a b)).den z0) (mB (equalPO (mulBasePO b) (mulPO b basePO)) ((V.bool (equalPO (combinePO a (pointPO key) b) (addPO (mulPO a (pointPO key)) (mulBasePO b)))).den z0 = (V.bool (lawMuls key a b)).den z0) ((V.bool false).den z0 = (V.bool (lawMuls key a b)).den z0)))))) := by kernel_rfl
theorem lawMuls_a (key : (Nat → Int)) (a : (Nat → Int)) (b : (Nat → Int)) : awp Try.prog o74O noG 300 (body Try.f19) (ends Try.prog Try.f19 fun v _ => okV (V.bool (lawMuls key a b)) v) ⟨[(V.ints .u8 32 key), (V.ints .u8 32 a), (V.ints .u8 32 b)] ++ List.replicate 67 V.un, []⟩ := by
  rw [lawMuls_t]
  refine mBt (fun h1 => ?_) (fun h1 => ?_)
  · simp only [lawMuls, h1, cond_true]
  · refine mBt (fun h2 => ?_) (fun h2 => ?_)
    · refine mBt (fun h3 => ?_) (fun h3 => ?_)
      · simp only [lawMuls, h1, h2, h3, cond_true, cond_false]
      · refine mBt (fun h4 => ?_) (fun h4 => ?_)
        · simp only [lawMuls, h1, h2, h3, h4, cond_true, cond_false]
        · refine mBt (fun h5 => ?_) (fun h5 => ?_)
          · simp only [lawMuls, h1, h2, h3, h4, h5, cond_true, cond_false]
          · refine mBt (fun h6 => ?_) (fun h6 => ?_)
            · simp only [lawMuls, h1, h2, h3, h4, h5, h6, cond_true, cond_false]
            · simp only [lawMuls, h1, h2, h3, h4, h5, h6, cond_true, cond_false]
    · refine mBt (fun h3 => ?_) (fun h3 => ?_)
      · simp only [lawMuls, h1, h2, h3, cond_true, cond_false]
      · refine mBt (fun h4 => ?_) (fun h4 => ?_)
        · simp only [lawMuls, h1, h2, h3, h4, cond_true, cond_false]
        · refine mBt (fun h5 => ?_) (fun h5 => ?_)
          · simp only [lawMuls, h1, h2, h3, h4, h5, cond_true, cond_false]
          · simp only [lawMuls, h1, h2, h3, h4, h5, cond_false]
noncomputable def g19 : List V → Option (Bool × V) := fun | [.ints .u8 32 key, .ints .u8 32 a, .ints .u8 32 b] => some (true, (V.bool (lawMuls key a b))) | _ => none
theorem lawMuls_p (key : (Nat → Int)) (a : (Nat → Int)) (b : (Nat → Int)) : (∀ μ μ', V.den μ' (V.bool (lawMuls key a b)) = V.den μ (V.bool (lawMuls key a b))) ∧ ∀ μ w, PureAt Try.prog 19 (([(V.ints .u8 32 key), (V.ints .u8 32 a), (V.ints .u8 32 b)] : List V).map (V.den μ)).toArray (V.den μ (V.bool (lawMuls key a b))) w :=
  pure_ok (F := o74O) (N := 300) (fn := Try.f19) (args := [(V.ints .u8 32 key), (V.ints .u8 32 a), (V.ints .u8 32 b)]) (r := (V.bool (lawMuls key a b))) (n := 67) hM o74O_ok (noG_ok _) Try.func19 (by kernel_rfl) (by kernel_rfl) (by kernel_rfl) (by kernel_rfl) (lawMuls_a key a b) (by kernel_rfl)
theorem g19_ok (vs : List V) (v : V) (h : g19 vs = some (true, v)) : (∀ μ μ', v.den μ' = v.den μ) ∧ ∀ μ w, PureAt Try.prog 19 (vs.map (V.den μ)).toArray (v.den μ) w := by
  unfold g19 at h
  split at h
  · simp only [Option.some.injEq, Prod.mk.injEq, true_and] at h
    subst h
    exact lawMuls_p _ _ _
  · simp at h
noncomputable def o19 : Orc := ext 19 g19 o74O
theorem o19_ok : OrcOK Try.prog o19 := ext_ok o74O_ok g19_ok
end Go.Proofs.Ytbnclikjbnfodaa

/-
  CurveMuls answers true. Conditions: none.
-/
namespace Go.Proofs.Ytbnclikjbnfodaa
set_option maxRecDepth 100000
open Go.Ev Go.Num

theorem digit_step {e : Nat → Int} (he : B32 e) {k : Nat} (hk : k < 64) : ∃ d : Nat, nibbleF e (k : Int) = (d : Int) ∧ d < 16 ∧ (vb e).toNat / 16 ^ (64 - (k + 1)) = 2 * (2 * (2 * (2 * ((vb e).toNat / 16 ^ (64 - k))))) + d := by
  have b0 := vb_bound he
  have hn := nibble_v he hk
  have hlt := nibble_lt e (k : Int)
  obtain ⟨d, hd⟩ := Int.eq_ofNat_of_zero_le hlt.1
  rw [hd] at hn hlt
  refine ⟨d, hd, by omega, ?_⟩
  obtain ⟨n, hn'⟩ := Int.eq_ofNat_of_zero_le b0.1
  rw [hn'] at hn ⊢
  rw [Int.toNat_natCast]
  have e1 : (n : Int) / 16 ^ (63 - k) = ((n / 16 ^ (63 - k) : Nat) : Int) := by push_cast; rfl
  rw [e1] at hn
  have e2 : n / 16 ^ (64 - k) = n / 16 ^ (63 - k) / 16 := by
    rw [Nat.div_div_eq_div_mul, ← Nat.pow_succ]
    exact congrArg (fun m => n / 16 ^ m) (by omega)
  rw [e2, show 64 - (k + 1) = 63 - k by omega]
  generalize n / 16 ^ (63 - k) = m at *
  omega
theorem top_zero {e : Nat → Int} (he : B32 e) : (vb e).toNat / 16 ^ (64 - 0) = 0 := Nat.div_eq_of_lt (by
  have b0 := vb_bound he
  have : (16 : Nat) ^ 64 = 115792089237316195423570985008687907853269984665640564039457584007913129639936 := by decide
  have h2 : (2 : Int) ^ 256 = 115792089237316195423570985008687907853269984665640564039457584007913129639936 := by decide
  show _ < 16 ^ 64
  omega)
theorem add5 (S T a b : Pn) : ((S.add T).add a).add b = (S.add a).add (T.add b) := by rw [add_assoc' (S.add T), add4]
theorem combine_it {e q f : Nat → Int} {A : Pn} (he : B32 e) (hf : B32 f) (hq : Fm q A) : ∀ k, k ≤ 64 → Fm (combineA_it e q f k) ((smu ((vb e).toNat / 16 ^ (64 - k)) A).add (smu ((vb f).toNat / 16 ^ (64 - k)) Bp))
  | 0, _ => by
    rw [top_zero he, top_zero hf, smu_0, smu_0, add_zero']
    exact zeroP_fm
  | k + 1, hk => by
    have ih := combine_it he hf hq k (by omega)
    obtain ⟨d, hd, dl, hN⟩ := digit_step he (k := k) (by omega)
    obtain ⟨d', hd', dl', hN'⟩ := digit_step hf (k := k) (by omega)
    have d1 := doubleP_fm ih
    rw [add4, smu_two, smu_two] at d1
    have d2 := doubleP_fm d1
    rw [add4, smu_two, smu_two] at d2
    have d3 := doubleP_fm d2
    rw [add4, smu_two, smu_two] at d3
    have d4 := doubleP_fm d3
    rw [add4, smu_two, smu_two] at d4
    have s := addP_fm (addP_fm d4 (mult_fm hq dl)) (mult_fm startP_fm dl')
    rw [add5, ← smu_add, ← smu_add, ← hN, ← hN'] at s
    show Fm (combineA_st e q f (k : Int) (combineA_it e q f k)) _
    unfold combineA_st
    rw [hd, hd', Int.toNat_natCast, Int.toNat_natCast]
    exact s
theorem combine_fm {e q f : Nat → Int} {A : Pn} (he : B32 e) (hf : B32 f) (hq : Fm q A) : Fm (combinePO e q f) ((smu (vb e).toNat A).add (smu (vb f).toNat Bp)) := by
  rw [combinePO_eq]
  have h := combine_it he hf hq 64 (by omega)
  rw [Nat.sub_self, Nat.pow_zero, Nat.div_one, Nat.div_one] at h
  exact h

/-- What goes over, in plain numbers. -/
def vO (a b : Nat → Int) : Nat → Int
  | 0 => 0
  | k + 1 => (a k + b k + vO a b k) / 256
theorem uO_v {a b : Nat → Int} (ha : B32 a) (hb : B32 b) : ∀ k, k ≤ 32 → uO a b k = vO a b k ∧ 0 ≤ vO a b k ∧ vO a b k ≤ 1
  | 0, _ => ⟨rfl, by simp [vO], by simp [vO]⟩
  | k + 1, hk => by
    obtain ⟨i1, i2, i3⟩ := uO_v ha hb k (by omega)
    have ha := ha k (by omega); have hb := hb k (by omega)
    simp only [uO, vO]
    rw [i1, wrap8i ha, wrap8i hb]
    rw [show addI .i64 (a k) (b k) = a k + b k from wrap_i64 _ (by omega), show addI .i64 (a k + b k) (vO a b k) = a k + b k + vO a b k from wrap_i64 _ (by omega), quo256 (by omega)]
    omega
theorem uS_at' (a b : Nat → Int) : ∀ j, j < 32 → uS a b j = IntKind.wrap .u8 (remI (addI .i64 (addI .i64 (IntKind.wrap .i64 (a j)) (IntKind.wrap .i64 (b j))) (uO a b j)) 256) :=
  thirtytwo (P := fun j => uS a b j = IntKind.wrap .u8 (remI (addI .i64 (addI .i64 (IntKind.wrap .i64 (a j)) (IntKind.wrap .i64 (b j))) (uO a b j)) 256)) ⟨rfl, rfl, rfl, rfl, rfl, rfl, rfl, rfl, rfl, rfl, rfl, rfl, rfl, rfl, rfl, rfl, rfl, rfl, rfl, rfl, rfl, rfl, rfl, rfl, rfl, rfl, rfl, rfl, rfl, rfl, rfl, rfl⟩
theorem uS_at {a b : Nat → Int} (ha : B32 a) (hb : B32 b) : ∀ j, j < 32 → uS a b j = (a j + b j + vO a b j) % 256 := by
  intro j hj
  obtain ⟨i1, i2, i3⟩ := uO_v ha hb j (by omega)
  have ha := ha j hj; have hb := hb j hj
  rw [uS_at' a b j hj, i1, wrap8i ha, wrap8i hb]
  rw [show addI .i64 (a j) (b j) = a j + b j from wrap_i64 _ (by omega), show addI .i64 (a j + b j) (vO a b j) = a j + b j + vO a b j from wrap_i64 _ (by omega), rem256 (by omega)]
  exact wrap_u8' (by omega)
theorem sum_all (a b : Nat → Int) : ∀ n, dv 256 n (fun j => (a j + b j + vO a b j) % 256) + pw 256 n * vO a b n = dv 256 n a + dv 256 n b
  | 0 => by simp [dv, vO]
  | n + 1 => by
    have ih := sum_all a b n
    rw [dv_top, dv_top, dv_top, show pw 256 (n + 1) = pw 256 n * 256 by rw [pw_eq, pw_eq, Int.pow_succ]]
    have e : (a n + b n + vO a b n) % 256 + 256 * vO a b (n + 1) = a n + b n + vO a b n := by simp only [vO]; omega
    generalize pw 256 n = W at *
    generalize (a n + b n + vO a b n) % 256 = r at *
    generalize vO a b (n + 1) = o at *
    generalize vO a b n = o' at *
    grind
theorem sumE {a b : Nat → Int} (ha : B32 a) (hb : B32 b) (h : (sumFO a b).2 = true) : B32 (sumFO a b).1 ∧ (vb (sumFO a b).1).toNat = (vb a).toNat + (vb b).toNat := by
  rw [sumFO_eq] at h ⊢
  unfold sumF at h ⊢
  obtain ⟨i1, i2, i3⟩ := uO_v ha hb 32 (by omega)
  simp only [beq_iff_eq] at h
  rw [i1] at h
  have hs := sum_all a b 32
  rw [h, Int.mul_zero, Int.add_zero] at hs
  have hv : vb (uS a b) = vb a + vb b := by
    show dv 256 32 _ = _
    rw [dv_congr (uS_at ha hb)]
    exact hs
  refine ⟨fun j hj => ?_, ?_⟩
  · show 0 ≤ uS a b j ∧ uS a b j < 256
    rw [uS_at ha hb j hj]; omega
  · show (vb (uS a b)).toNat = _
    have h1 := (vb_bound ha).1
    have h2 := (vb_bound hb).1
    rw [hv]; omega
theorem muls_true {key a b : Nat → Int} (hk : B32 key) (ha : B32 a) (hb : B32 b) : lawMuls key a b = true := by
  obtain ⟨A, hA⟩ := pointE hk
  have pa := mulP_fm ha hA
  have pb := mulP_fm hb hA
  have c1 : equalPO (mulPO b (mulPO a (pointPO key))) (mulPO a (mulPO b (pointPO key))) = true := by
    rw [equalP_iff (mulP_fm hb pa) (mulP_fm ha pb), ← smu_mul, ← smu_mul, Nat.mul_comm]
  have c2 : equalPO (mulBasePO b) (mulPO b basePO) = true := (equalP_iff (mulBase_fm hb) (mulP_fm hb baseP_fm)).2 rfl
  have c3 : equalPO (combinePO a (pointPO key) b) (addPO (mulPO a (pointPO key)) (mulBasePO b)) = true := (equalP_iff (combine_fm ha hb hA) (addP_fm pa (mulBase_fm hb))).2 rfl
  unfold lawMuls
  rw [lives_true, c1, c2, c3, onP_of pa]
  cases h : (sumFO a b).2 with
  | false => rfl
  | true =>
    obtain ⟨s1, s2⟩ := sumE ha hb h
    have c4 : equalPO (addPO (mulPO a (pointPO key)) (mulPO b (pointPO key))) (mulPO (sumFO a b).1 (pointPO key)) = true := by
      rw [equalP_iff (addP_fm pa pb) (mulP_fm s1 hA), s2, smu_add]
    rw [c4]
    rfl
end Go.Proofs.Ytbnclikjbnfodaa
