/-
  FieldRing answers true, of any limbs that uint64 holds. Conditions: none.
-/
import Derived.Test.YtbnclikjbnfodaaWRing
import Derived.Test.YtbnclikjbnfodaaMRing
namespace Go.Proofs.Ytbnclikjbnfodaa
open Go.Ev Go.Num

theorem counts_true : countsB = true := by
  unfold countsB
  rw [addFO_eq, mulFO_eq, smallFO_eq, isZeroFO_eq]
  kernel_rfl

theorem ring_true {x y z : Nat → Int} (hx : U5 x) (hy : U5 y) (hz : U5 z) : lawRing x y z = true := by
  have i0 := small_i 0 (by omega) (by omega)
  have i1 := small_i 1 (by omega) (by omega)
  have s := select_i (y := y) hx
  have xy := mul_i hx hy
  have e1 := (add_i hx hy).same (add_i hy hx) (by omega)
  have e2 := xy.same (mul_i hy hx) (by grind)
  have e3 := ((add_i (add_i hx hy).u hz).to (Y := v5 x + v5 y + v5 z) (by rw [(add_i hx hy).1, al])).same ((add_i hx (add_i hy hz).u).to (Y := v5 x + (v5 y + v5 z)) (by rw [(add_i hy hz).1, ar])) (by omega)
  have e4 := ((mul_i xy.u hz).to (Y := v5 x * v5 y * v5 z) (by rw [xy.1, ml])).same ((mul_i hx (mul_i hy hz).u).to (Y := v5 x * (v5 y * v5 z)) (by rw [(mul_i hy hz).1, mr])) (by grind)
  have e5 := ((mul_i hx (add_i hy hz).u).to (Y := v5 x * (v5 y + v5 z)) (by rw [(add_i hy hz).1, mr])).same (addK xy (mul_i hx hz)) (by grind)
  have e6 := ((add_i hx i0.u).to (Y := v5 x + 0) (by rw [i0.1, ar])).same s (by omega)
  have e7 := ((mul_i hx i1.u).to (Y := v5 x * 1) (by rw [i1.1, mr])).same s (by omega)
  have e8 := ((mul_i hx i0.u).to (Y := v5 x * 0) (by rw [i0.1, mr])).same i0 (by omega)
  have e9 := ((add_i hx (neg_i hx).u).to (Y := v5 x + -v5 x) (by rw [(neg_i hx).1, ar])).same i0 (by omega)
  have e10 := (sub_i hx hy).same ((add_i hx (neg_i hy).u).to (Y := v5 x + -v5 y) (by rw [(neg_i hy).1, ar])) (by omega)
  have e11 := (sq_i hx).same (mul_i hx hx) rfl
  have e12 := (negK (neg_i hx)).same s (by omega)
  unfold lawRing
  rw [addFO_eq, mulFO_eq, smallFO_eq, selectFO_eq, negFO_eq, subFO_eq, squareFO_eq, e1, e2, e3, e4, e5, e6, e7, e8, e9, e10, e11, e12, counts_true]
  rfl

end Go.Proofs.Ytbnclikjbnfodaa
