/-
  FieldBytes answers true, of any bytes, limbs and small number. Conditions: none.
-/
import Derived.Test.YtbnclikjbnfodaaWBytes
import Derived.Test.YtbnclikjbnfodaaMI
import Derived.Test.YtbnclikjbnfodaaMG
namespace Go.Proofs.Ytbnclikjbnfodaa
open Go.Ev Go.Num

theorem bytes_is {x a : Nat → Int} (hx : U5 x) (ha : D10 a) (h : v5 x % p = v10 a) : eqN 32 (bytesF x) (rBytes a) = true := by
  rw [eqN_iff]
  intro j hj
  rw [bytes_v hx j hj, rBytes_v ha j hj, h]

theorem bytes_true {b x : Nat → Int} {n : Int} (hb : B32 b) (hx : U5 x) (hn : 0 ≤ n ∧ n < 18446744073709551616) : lawBytes b x n = true := by
  obtain ⟨f1, f2⟩ := fromBytes_v hb
  obtain ⟨r1, r2⟩ := rFromBytes_v hb
  obtain ⟨a1, a2⟩ := of_r hx
  obtain ⟨s1, s2⟩ := small_v hn.1 hn.2
  obtain ⟨t1, t2⟩ := small_r hn.1 hn.2
  have e1 := is_of f2 r2 (by rw [f1, r1])
  have e2 : canonicalF b = rCanonical b := by
    unfold canonicalF rCanonical
    have h := bytes_is f2.u r2 (by rw [f1, r1]; exact Int.emod_emod_of_dvd _ (Int.dvd_refl _))
    rw [eqN_iff] at h
    rw [Bool.eq_iff_iff, eqN_iff, eqN_iff]
    exact ⟨fun g j hj => by rw [← h j hj]; exact g j hj, fun g j hj => by rw [h j hj]; exact g j hj⟩
  have e3 := bytes_is hx a2 a1.symm
  have e4 := is_of s2 t2 (by rw [s1, t1])
  unfold lawBytes
  rw [e1, e2, e3, e4]
  simp

end Go.Proofs.Ytbnclikjbnfodaa
