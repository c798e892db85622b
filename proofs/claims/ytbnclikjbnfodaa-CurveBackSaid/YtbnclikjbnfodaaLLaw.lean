/-
  CurveLaw, CurveGroup and CurveBack answer true. Conditions: none.
-/
import Derived.Test.YtbnclikjbnfodaaZ19
import Derived.Test.YtbnclikjbnfodaaWLaw
import Derived.Test.YtbnclikjbnfodaaWGroup
import Derived.Test.YtbnclikjbnfodaaWBack
set_option maxRecDepth 100000
namespace Go.Proofs.Ytbnclikjbnfodaa
open Go.Ev Go.Num

theorem law_true {a b : Nat → Int} (ha : B32 a) (hb : B32 b) : lawLaw a b = true := by
  obtain ⟨A, hA⟩ := pointE ha
  obtain ⟨B, hB⟩ := pointE hb
  have hS := addP_fm hA hB
  obtain ⟨x1, y1⟩ := flatE hA
  obtain ⟨x2, y2⟩ := flatE hB
  obtain ⟨x3, y3⟩ := flatE hS
  have one := smallE 1 (by omega) (by omega)
  rw [kk_1] at one
  have k := mulE2 number2E (mulE2 (mulE2 x1 x2) (mulE2 y1 y2))
  have more := addE one k
  have less := subE one k
  obtain ⟨n1, n2⟩ := full A.on B.on
  have ek : D * (A.x * B.x * (A.y * B.y)) = D * A.x * B.x * A.y * B.y := by
    generalize D = d
    clear x1 y1 x2 y2 x3 y3 one k more less n1 n2
    grind -lia
  rw [ek] at more less
  unfold lawLaw
  rw [lives_true, onLaw_true hA, onLaw_true hB, onLaw_true hS, isZeroE more, isZeroE less, decide_eq_false n1, decide_eq_false n2,
    equalE (mulE2 x3 more) (addE (mulE2 x1 y2) (mulE2 x2 y1)), equalE (mulE2 y3 less) (addE (mulE2 y1 y2) (mulE2 x1 x2)), add_x, add_y]
  simp
theorem group_true {a b c : Nat → Int} (ha : B32 a) (hb : B32 b) (hc : B32 c) : lawGroup a b c = true := by
  obtain ⟨A, hA⟩ := pointE ha
  obtain ⟨B, hB⟩ := pointE hb
  obtain ⟨C, hC⟩ := pointE hc
  have l := addP_fm (addP_fm hA hB) hC
  have r := addP_fm hA (addP_fm hC hB)
  have e : (A.add B).add C = A.add (C.add B) := by rw [add_assoc', add_comm' B C]
  have e1 : equalPO (addPO (addPO (pointPO a) (pointPO b)) (pointPO c)) (addPO (pointPO a) (addPO (pointPO c) (pointPO b))) = true := (equalP_iff l r).2 e
  have e2 : eqN 32 (encodePO (addPO (addPO (pointPO a) (pointPO b)) (pointPO c))) (encodePO (addPO (pointPO a) (addPO (pointPO c) (pointPO b)))) = true := by
    rw [vb_inj (encE l).1 (encE r).1, (encE l).2, (encE r).2, e]; exact decide_eq_true rfl
  have e3 : equalPO (addPO (pointPO a) zeroPO) (pointPO a) = true := (equalP_iff (addP_fm hA zeroP_fm) hA).2 (add_zero' A)
  have e4 : equalPO (addPO (pointPO a) (negPO (pointPO a))) zeroPO = true := (equalP_iff (addP_fm hA (negP_fm hA)) zeroP_fm).2 (add_neg' A)
  have e5 : equalPO (doublePO (pointPO a)) (addPO (pointPO a) (pointPO a)) = true := (equalP_iff (doubleP_fm hA) (addP_fm hA hA)).2 rfl
  have e6 : equalPO (pointPO a) (pointPO b) = eqN 32 (encodePO (pointPO a)) (encodePO (pointPO b)) := by
    rw [vb_inj (encE hA).1 (encE hB).1, (encE hA).2, (encE hB).2, Bool.eq_iff_iff, equalP_iff hA hB, decide_eq_true_eq]
    exact ⟨fun h => by rw [h], en_inj⟩
  unfold lawGroup
  rw [lives_true, e1, e2, onP_of l, e3, e4, e5, e6]
  simp
theorem times_fm {q : Nat → Int} {A : Pn} {ka : Nat → Int} {k : K} (hq : Fm q A) (hk : Ik ka k) (h0 : k ≠ 0) :
    Fm (spl 15 5 20 (mulFO (sh 15 q) ka) (spl 10 5 20 (mulFO (sh 10 q) ka) (spl 5 5 20 (mulFO (sh 5 q) ka) (spl 0 5 20 (mulFO (sh 0 q) ka) (fun _ => 0))))) A := by
  obtain ⟨z, hz, x1, y1, z1, t1⟩ := hq
  have m (a b : K) : a * b * k = a * (b * k) := Fin.mul_assoc a b k
  exact ⟨z * k, k_mul_ne hz h0, (mulE2 x1 hk).as (fiv rfl rfl rfl rfl rfl) (m _ _), (mulE2 y1 hk).as (fiv rfl rfl rfl rfl rfl) (m _ _), (mulE2 z1 hk).congr (fiv rfl rfl rfl rfl rfl), (mulE2 t1 hk).as (fiv rfl rfl rfl rfl rfl) (m _ _)⟩
theorem back_steps {q r : Nat → Int} {A : Pn} (hq : Fm q A) (hr : Fm r A) :
    (decodePO (encodePO q)).2 = true ∧ onPO q = true ∧ equalPO q r = true ∧ eqN 32 (encodePO q) (encodePO r) = true ∧ equalPO (decodePO (encodePO q)).1 r = true ∧ eqN 32 (encodePO (decodePO (encodePO q)).1) (encodePO q) = true := by
  obtain ⟨b1, b2⟩ := encE hq
  obtain ⟨c1, c2⟩ := encE hr
  rcases decE b1 with ⟨B, h1, h2, h3⟩ | ⟨_, _, h3⟩
  rotate_left
  · exact absurd b2 (h3 A)
  have e : B = A := en_inj (by rw [← h3, b2])
  rw [e] at h2
  obtain ⟨d1, d2⟩ := encE h2
  refine ⟨h1, onP_of hq, (equalP_iff hq hr).2 rfl, ?_, (equalP_iff h2 hr).2 rfl, ?_⟩
  · rw [vb_inj b1 c1, b2, c2]; exact decide_eq_true rfl
  · rw [vb_inj d1 b1, d2, b2]; exact decide_eq_true rfl
theorem back_true {key : Nat → Int} {b : Int} (hk : B32 key) (hb : 0 ≤ b ∧ b < 18446744073709551616) : lawBack key b = true := by
  obtain ⟨A, hA⟩ := pointE hk
  have sb := smallE b hb.1 hb.2
  have s7 := smallE 7 (by omega) (by omega)
  have n7 : kk 7 ≠ 0 := by rw [Ne, kk_z]; decide
  unfold lawBack
  rw [lives_true, isZeroE sb]
  by_cases h : kk b = 0
  · obtain ⟨h1, h2, h3, h4, h5, h6⟩ := back_steps (times_fm hA s7 n7) hA
    rw [decide_eq_true h, h1, h2, h3, h4, h5, h6]
    rfl
  · obtain ⟨h1, h2, h3, h4, h5, h6⟩ := back_steps (times_fm hA sb h) hA
    rw [decide_eq_false h, h1, h2, h3, h4, h5, h6]
    rfl
end Go.Proofs.Ytbnclikjbnfodaa
