/-
  A part of the groundwork of this seat's claims: an evaluator over the program, walks, and plain mathematics. Conditions: none.
-/
import Derived.Test.YtbnclikjbnfodaaZ11
/-
  FieldTells answers true, of any limbs that uint64 holds. Conditions: none.
-/
namespace Go.Proofs.Ytbnclikjbnfodaa
open Go.Ev Go.Num

theorem equal_v {x y : Nat → Int} (hx : U5 x) (hy : U5 y) : equalF x y = decide (v5 x % p = v5 y % p) := by
  obtain ⟨a1, a2⟩ := reduce_v hx
  obtain ⟨b1, b2⟩ := reduce_v hy
  show eqN 5 (reduceF x) (reduceF y) = _
  rw [eq5 a2 b2, a1, b1]
theorem isZero_v {x : Nat → Int} (hx : U5 x) : isZeroF x = decide (v5 x % p = 0) := by
  obtain ⟨a1, a2⟩ := reduce_v hx
  show eqN 5 (reduceF x) (fun _ => 0) = _
  rw [eq5 a2 R5_zero, a1, v5_zero]
theorem isOdd_v {x : Nat → Int} (hx : U5 x) : isOddF x = (v5 x % p % 2 == 1) := by
  obtain ⟨a1, a2⟩ := reduce_v hx
  have e : v5 x % p % 2 = reduceF x 0 % 2 := by rw [← a1, v5_eq]; omega
  rw [e, ← and1]; rfl
theorem rIsZero_v {a : Nat → Int} (h : D10 a) : rIsZero a = decide (v10 a = 0) := by
  show eqN 10 a (fun _ => 0) = _
  rw [eq10 h D10_zero, v10_zero]
theorem rIsOdd_v (a : Nat → Int) : rIsOdd a = (v10 a % 2 == 1) := by
  have e : v10 a % 2 = a 0 % 2 := by rw [v10_eq]; omega
  rw [e, ← and1]; rfl

theorem tells_true {x y : Nat → Int} (hx : U5 x) (hy : U5 y) (c : Bool) : lawTells x y c = true := by
  obtain ⟨a1, a2⟩ := of_r hx
  obtain ⟨b1, b2⟩ := of_r hy
  have e1 : (equalF x y == eqN 10 (rOf x) (rOf y)) = true := by rw [equal_v hx hy, eq10 a2 b2, a1, b1]; simp
  have e2 : (isZeroF x == rIsZero (rOf x)) = true := by rw [isZero_v hx, rIsZero_v a2, a1]; simp
  have e3 : (isOddF x == rIsOdd (rOf x)) = true := by rw [isOdd_v hx, rIsOdd_v, a1]; simp
  obtain ⟨r1, r2⟩ := reduce_v hx
  obtain ⟨s1, s2⟩ := reduce_v hy
  unfold lawTells
  rw [e1, e2, e3]
  simp only [Bool.not_true, cond_false, selectF, cond_true]
  cases c with
  | true => rw [cond_true]; exact is_of r2 a2 (by rw [r1, a1])
  | false => rw [cond_false]; exact is_of s2 b2 (by rw [s1, b1])

end Go.Proofs.Ytbnclikjbnfodaa

namespace Go.Proofs.Ytbnclikjbnfodaa
open Go.Ev
/- fareboxlaw05.FieldSums -/
def lawSums (x : (Nat → Int)) (y : (Nat → Int)) : Bool := (cond (isE (addF x y) (rAdd (rOf x) (rOf y))) (cond (isE (subF x y) (rSub (rOf x) (rOf y))) (isE (negF x) (rNeg (rOf x))) false) false)
theorem lawSums_t (x : (Nat → Int)) (y : (Nat → Int)) : awp Try.prog o27 noG 300 (body Try.f4) (ends Try.prog Try.f4 fun v _ => okV (V.bool (lawSums x y)) v) ⟨[(V.ints .u64 5 x), (V.ints .u64 5 y)] ++ List.replicate 32 V.un, []⟩ = (mB (isE (addF x y) (rAdd (rOf x) (rOf y))) (mB (isE (subF x y) (rSub (rOf x) (rOf y))) ((V.bool (isE (negF x) (rNeg (rOf x)))).den z0 = (V.bool (lawSums x y)).den z0) ((V.bool false).den z0 = (V.bool (lawSums x y)).den z0)) ((V.bool false).den z0 = (V.bool (lawSums x y)).den z0)) := by kernel_rfl
theorem lawSums_a (x : (Nat → Int)) (y : (Nat → Int)) : awp Try.prog o27 noG 300 (body Try.f4) (ends Try.prog Try.f4 fun v _ => okV (V.bool (lawSums x y)) v) ⟨[(V.ints .u64 5 x), (V.ints .u64 5 y)] ++ List.replicate 32 V.un, []⟩ := by
  rw [lawSums_t]
  refine mBt (fun h1 => ?_) (fun h1 => ?_)
  · refine mBt (fun h2 => ?_) (fun h2 => ?_)
    · simp only [lawSums, h1, h2, cond_true]
    · simp only [lawSums, h1, h2, cond_true, cond_false]
  · simp only [lawSums, h1, cond_false]
def g4 : List V → Option (Bool × V) := fun | [.ints .u64 5 x, .ints .u64 5 y] => some (true, (V.bool (lawSums x y))) | _ => none
theorem lawSums_p (x : (Nat → Int)) (y : (Nat → Int)) : (∀ μ μ', V.den μ' (V.bool (lawSums x y)) = V.den μ (V.bool (lawSums x y))) ∧ ∀ μ w, PureAt Try.prog 4 (([(V.ints .u64 5 x), (V.ints .u64 5 y)] : List V).map (V.den μ)).toArray (V.den μ (V.bool (lawSums x y))) w :=
  pure_ok (F := o27) (N := 300) (fn := Try.f4) (args := [(V.ints .u64 5 x), (V.ints .u64 5 y)]) (r := (V.bool (lawSums x y))) (n := 32) hM o27_ok (noG_ok _) Try.func4 (by kernel_rfl) (by kernel_rfl) (by kernel_rfl) (by kernel_rfl) (lawSums_a x y) (by kernel_rfl)
theorem g4_ok (vs : List V) (v : V) (h : g4 vs = some (true, v)) : (∀ μ μ', v.den μ' = v.den μ) ∧ ∀ μ w, PureAt Try.prog 4 (vs.map (V.den μ)).toArray (v.den μ) w := by
  unfold g4 at h
  split at h
  · simp only [Option.some.injEq, Prod.mk.injEq, true_and] at h
    subst h
    exact lawSums_p _ _
  · simp at h
def o4 : Orc := ext 4 g4 o27
theorem o4_ok : OrcOK Try.prog o4 := ext_ok o27_ok g4_ok
end Go.Proofs.Ytbnclikjbnfodaa

/-
  FieldSums answers true, of any limbs that uint64 holds. Conditions: none.
-/
namespace Go.Proofs.Ytbnclikjbnfodaa
open Go.Ev Go.Num

theorem sums_true {x y : Nat → Int} (hx : U5 x) (hy : U5 y) : lawSums x y = true := by
  obtain ⟨a1, a2⟩ := of_r hx
  obtain ⟨b1, b2⟩ := of_r hy
  obtain ⟨s1, s2⟩ := add_v hx hy
  obtain ⟨t1, t2⟩ := add_r a2 b2
  obtain ⟨s3, s4⟩ := sub_v hx hy
  obtain ⟨t3, t4⟩ := sub_r a2 b2
  obtain ⟨s5, s6⟩ := neg_v hx
  obtain ⟨t5, t6⟩ := neg_r a2
  have e1 := is_of s2 t2 (by rw [s1, t1, a1, b1, Int.emod_add_emod, Int.add_emod_emod])
  have e2 := is_of s4 t4 (by rw [s3, t3, a1, b1, Int.emod_sub_emod, Int.sub_emod_emod])
  have e3 := is_of s6 t6 (by rw [s5, t5, a1, neg_mod])
  unfold lawSums
  rw [e1, e2, e3]
  rfl

end Go.Proofs.Ytbnclikjbnfodaa

namespace Go.Proofs.Ytbnclikjbnfodaa
open Go.Ev
/- field.FromBytes -/
def fromBytesF (b : (Nat → Int)) : (Nat → Int) := (reduceF (L [(orI .u64 (orI .u64 (orI .u64 (orI .u64 (orI .u64 (orI .u64 (orI .u64 0 (andI .u64 (shlI .u64 (IntKind.wrap .u64 (b 0)) 0) 2251799813685247)) (andI .u64 (shlI .u64 (IntKind.wrap .u64 (b 1)) 8) 2251799813685247)) (andI .u64 (shlI .u64 (IntKind.wrap .u64 (b 2)) 16) 2251799813685247)) (andI .u64 (shlI .u64 (IntKind.wrap .u64 (b 3)) 24) 2251799813685247)) (andI .u64 (shlI .u64 (IntKind.wrap .u64 (b 4)) 32) 2251799813685247)) (andI .u64 (shlI .u64 (IntKind.wrap .u64 (b 5)) 40) 2251799813685247)) (andI .u64 (shlI .u64 (IntKind.wrap .u64 (b 6)) 48) 2251799813685247)), (orI .u64 (orI .u64 (orI .u64 (orI .u64 (orI .u64 (orI .u64 (orI .u64 0 (shrI .u64 (IntKind.wrap .u64 (b 6)) 3)) (andI .u64 (shlI .u64 (IntKind.wrap .u64 (b 7)) 5) 2251799813685247)) (andI .u64 (shlI .u64 (IntKind.wrap .u64 (b 8)) 13) 2251799813685247)) (andI .u64 (shlI .u64 (IntKind.wrap .u64 (b 9)) 21) 2251799813685247)) (andI .u64 (shlI .u64 (IntKind.wrap .u64 (b 10)) 29) 2251799813685247)) (andI .u64 (shlI .u64 (IntKind.wrap .u64 (b 11)) 37) 2251799813685247)) (andI .u64 (shlI .u64 (IntKind.wrap .u64 (b 12)) 45) 2251799813685247)), (orI .u64 (orI .u64 (orI .u64 (orI .u64 (orI .u64 (orI .u64 (orI .u64 (orI .u64 0 (shrI .u64 (IntKind.wrap .u64 (b 12)) 6)) (andI .u64 (shlI .u64 (IntKind.wrap .u64 (b 13)) 2) 2251799813685247)) (andI .u64 (shlI .u64 (IntKind.wrap .u64 (b 14)) 10) 2251799813685247)) (andI .u64 (shlI .u64 (IntKind.wrap .u64 (b 15)) 18) 2251799813685247)) (andI .u64 (shlI .u64 (IntKind.wrap .u64 (b 16)) 26) 2251799813685247)) (andI .u64 (shlI .u64 (IntKind.wrap .u64 (b 17)) 34) 2251799813685247)) (andI .u64 (shlI .u64 (IntKind.wrap .u64 (b 18)) 42) 2251799813685247)) (andI .u64 (shlI .u64 (IntKind.wrap .u64 (b 19)) 50) 2251799813685247)), (orI .u64 (orI .u64 (orI .u64 (orI .u64 (orI .u64 (orI .u64 (orI .u64 0 (shrI .u64 (IntKind.wrap .u64 (b 19)) 1)) (andI .u64 (shlI .u64 (IntKind.wrap .u64 (b 20)) 7) 2251799813685247)) (andI .u64 (shlI .u64 (IntKind.wrap .u64 (b 21)) 15) 2251799813685247)) (andI .u64 (shlI .u64 (IntKind.wrap .u64 (b 22)) 23) 2251799813685247)) (andI .u64 (shlI .u64 (IntKind.wrap .u64 (b 23)) 31) 2251799813685247)) (andI .u64 (shlI .u64 (IntKind.wrap .u64 (b 24)) 39) 2251799813685247)) (andI .u64 (shlI .u64 (IntKind.wrap .u64 (b 25)) 47) 2251799813685247)), (orI .u64 (orI .u64 (orI .u64 (orI .u64 (orI .u64 (orI .u64 (orI .u64 0 (shrI .u64 (IntKind.wrap .u64 (b 25)) 4)) (andI .u64 (shlI .u64 (IntKind.wrap .u64 (b 26)) 4) 2251799813685247)) (andI .u64 (shlI .u64 (IntKind.wrap .u64 (b 27)) 12) 2251799813685247)) (andI .u64 (shlI .u64 (IntKind.wrap .u64 (b 28)) 20) 2251799813685247)) (andI .u64 (shlI .u64 (IntKind.wrap .u64 (b 29)) 28) 2251799813685247)) (andI .u64 (shlI .u64 (IntKind.wrap .u64 (b 30)) 36) 2251799813685247)) (andI .u64 (shlI .u64 (IntKind.wrap .u64 (andI .u8 (b 31) 127)) 44) 2251799813685247))]))
theorem fromBytesF_t (b : (Nat → Int)) : awp Try.prog o27 noG 300 (body Try.f35) (ends Try.prog Try.f35 fun v _ => okV (V.ints .u64 5 (fromBytesF b)) v) ⟨[(V.ints .u8 32 b)] ++ List.replicate 52 V.un, []⟩ = ((V.ints .u64 5 (fromBytesF b)).den z0 = (V.ints .u64 5 (fromBytesF b)).den z0) := by kernel_rfl
theorem fromBytesF_a (b : (Nat → Int)) : awp Try.prog o27 noG 300 (body Try.f35) (ends Try.prog Try.f35 fun v _ => okV (V.ints .u64 5 (fromBytesF b)) v) ⟨[(V.ints .u8 32 b)] ++ List.replicate 52 V.un, []⟩ := by rw [fromBytesF_t]
def g35 : List V → Option (Bool × V) := fun | [.ints .u8 32 b] => some (true, (V.ints .u64 5 (fromBytesF b))) | _ => none
theorem fromBytesF_p (b : (Nat → Int)) : (∀ μ μ', V.den μ' (V.ints .u64 5 (fromBytesF b)) = V.den μ (V.ints .u64 5 (fromBytesF b))) ∧ ∀ μ w, PureAt Try.prog 35 (([(V.ints .u8 32 b)] : List V).map (V.den μ)).toArray (V.den μ (V.ints .u64 5 (fromBytesF b))) w :=
  pure_ok (F := o27) (N := 300) (fn := Try.f35) (args := [(V.ints .u8 32 b)]) (r := (V.ints .u64 5 (fromBytesF b))) (n := 52) hM o27_ok (noG_ok _) Try.func35 (by kernel_rfl) (by kernel_rfl) (by kernel_rfl) (by kernel_rfl) (fromBytesF_a b) (by kernel_rfl)
theorem g35_ok (vs : List V) (v : V) (h : g35 vs = some (true, v)) : (∀ μ μ', v.den μ' = v.den μ) ∧ ∀ μ w, PureAt Try.prog 35 (vs.map (V.den μ)).toArray (v.den μ) w := by
  unfold g35 at h
  split at h
  · simp only [Option.some.injEq, Prod.mk.injEq, true_and] at h
    subst h
    exact fromBytesF_p _
  · simp at h
def o35 : Orc := ext 35 g35 o27
theorem o35_ok : OrcOK Try.prog o35 := ext_ok o27_ok g35_ok

/- field.Bytes -/
def bytesF (x : Nat → Int) : Nat → Int := fun i => IntKind.wrap .u8 (bif (Nat.blt 43 (8 * i % 51) && Nat.blt (8 * i / 51) 4) then orI .u64 (shrI .u64 (reduceF x (8 * i / 51)) ((8 * i % 51 : Nat) : Int)) (shlI .u64 (reduceF x (8 * i / 51 + 1)) ((51 - 8 * i % 51 : Nat) : Int)) else shrI .u64 (reduceF x (8 * i / 51)) ((8 * i % 51 : Nat) : Int))
theorem bytesF_t (x : (Nat → Int)) : awp Try.prog o35 noG 300 (body Try.f39) (ends Try.prog Try.f39 fun v _ => okV (V.ints .u8 32 (bytesF x)) v) ⟨[(V.ints .u64 5 x)] ++ List.replicate 44 V.un, []⟩ = ((V.ints .u8 32 (bytesF x)).den z0 = (V.ints .u8 32 (bytesF x)).den z0) := by kernel_rfl
theorem bytesF_a (x : (Nat → Int)) : awp Try.prog o35 noG 300 (body Try.f39) (ends Try.prog Try.f39 fun v _ => okV (V.ints .u8 32 (bytesF x)) v) ⟨[(V.ints .u64 5 x)] ++ List.replicate 44 V.un, []⟩ := by rw [bytesF_t]
def g39 : List V → Option (Bool × V) := fun | [.ints .u64 5 x] => some (true, (V.ints .u8 32 (bytesF x))) | _ => none
theorem bytesF_p (x : (Nat → Int)) : (∀ μ μ', V.den μ' (V.ints .u8 32 (bytesF x)) = V.den μ (V.ints .u8 32 (bytesF x))) ∧ ∀ μ w, PureAt Try.prog 39 (([(V.ints .u64 5 x)] : List V).map (V.den μ)).toArray (V.den μ (V.ints .u8 32 (bytesF x))) w :=
  pure_ok (F := o35) (N := 300) (fn := Try.f39) (args := [(V.ints .u64 5 x)]) (r := (V.ints .u8 32 (bytesF x))) (n := 44) hM o35_ok (noG_ok _) Try.func39 (by kernel_rfl) (by kernel_rfl) (by kernel_rfl) (by kernel_rfl) (bytesF_a x) (by kernel_rfl)
theorem g39_ok (vs : List V) (v : V) (h : g39 vs = some (true, v)) : (∀ μ μ', v.den μ' = v.den μ) ∧ ∀ μ w, PureAt Try.prog 39 (vs.map (V.den μ)).toArray (v.den μ) w := by
  unfold g39 at h
  split at h
  · simp only [Option.some.injEq, Prod.mk.injEq, true_and] at h
    subst h
    exact bytesF_p _
  · simp at h
def o39 : Orc := ext 39 g39 o35
theorem o39_ok : OrcOK Try.prog o39 := ext_ok o35_ok g39_ok

/- field.Canonical -/
def canonicalF (b : (Nat → Int)) : Bool := (eqN 32 (bytesF (fromBytesF b)) b)
theorem canonicalF_t (b : (Nat → Int)) : awp Try.prog o39 noG 300 (body Try.f37) (ends Try.prog Try.f37 fun v _ => okV (V.bool (canonicalF b)) v) ⟨[(V.ints .u8 32 b)] ++ List.replicate 7 V.un, []⟩ = ((V.bool (canonicalF b)).den z0 = (V.bool (canonicalF b)).den z0) := by kernel_rfl
theorem canonicalF_a (b : (Nat → Int)) : awp Try.prog o39 noG 300 (body Try.f37) (ends Try.prog Try.f37 fun v _ => okV (V.bool (canonicalF b)) v) ⟨[(V.ints .u8 32 b)] ++ List.replicate 7 V.un, []⟩ := by rw [canonicalF_t]
def g37 : List V → Option (Bool × V) := fun | [.ints .u8 32 b] => some (true, (V.bool (canonicalF b))) | _ => none
theorem canonicalF_p (b : (Nat → Int)) : (∀ μ μ', V.den μ' (V.bool (canonicalF b)) = V.den μ (V.bool (canonicalF b))) ∧ ∀ μ w, PureAt Try.prog 37 (([(V.ints .u8 32 b)] : List V).map (V.den μ)).toArray (V.den μ (V.bool (canonicalF b))) w :=
  pure_ok (F := o39) (N := 300) (fn := Try.f37) (args := [(V.ints .u8 32 b)]) (r := (V.bool (canonicalF b))) (n := 7) hM o39_ok (noG_ok _) Try.func37 (by kernel_rfl) (by kernel_rfl) (by kernel_rfl) (by kernel_rfl) (canonicalF_a b) (by kernel_rfl)
theorem g37_ok (vs : List V) (v : V) (h : g37 vs = some (true, v)) : (∀ μ μ', v.den μ' = v.den μ) ∧ ∀ μ w, PureAt Try.prog 37 (vs.map (V.den μ)).toArray (v.den μ) w := by
  unfold g37 at h
  split at h
  · simp only [Option.some.injEq, Prod.mk.injEq, true_and] at h
    subst h
    exact canonicalF_p _
  · simp at h
def o37 : Orc := ext 37 g37 o39
theorem o37_ok : OrcOK Try.prog o37 := ext_ok o39_ok g37_ok
end Go.Proofs.Ytbnclikjbnfodaa

namespace Go.Proofs.Ytbnclikjbnfodaa
open Go.Ev
theorem rFromBytes_h (b : (Nat → Int)) (N : Nat) (K : V → List V → Prop) : awp Try.prog o37 noG N (body Try.f36) (ends Try.prog Try.f36 K) ⟨[(V.ints .u8 32 b)] ++ List.replicate 32 V.un, []⟩ = lp (awp Try.prog o37 noG N (loopOf (body Try.f36))) (spineQ Try.prog o37 noG N (body Try.f36) (ends Try.prog Try.f36 K)) N ⟨[(V.ints .u8 32 b), (V.ptr 0 0), (V.ptr 1 0), (V.ptr 2 0), (V.int .i64 0), V.un, V.un, V.un, V.un, V.un, V.un, V.un, V.un, V.un, V.un, V.un, V.un, V.un, V.un, V.un, V.un, V.un, V.un, V.un, V.un, V.un, V.un, V.un, V.un, V.un, V.un, V.un, V.un], [(V.ints .u8 32 b), (V.ints .u64 10 (fun _ => 0)), (V.ints .u64 10 (fun _ => 0))]⟩ := by kernel_rfl
theorem rFromBytes_s (b : (Nat → Int)) (a : Nat → Int) (i : Int) (t5 t6 t7 t8 t9 t10 t11 t12 t13 t14 t15 t16 t17 t18 t19 t20 t21 t22 t23 t24 t25 t26 t27 t28 t29 t30 : V) (Q : Exit → St → Prop) (n : Nat) : lp (awp Try.prog o37 noG 300 (loopOf (body Try.f36))) Q (n + 1) ⟨[(V.ints .u8 32 b), (V.ptr 0 0), (V.ptr 1 0), (V.ptr 2 0), (V.int .i64 i), t5, t6, t7, t8, t9, t10, t11, t12, t13, t14, t15, t16, t17, t18, t19, t20, t21, t22, t23, t24, t25, t26, t27, t28, t29, t30, V.un, V.un], [(V.ints .u8 32 b), (V.ints .u64 10 (fun _ => 0)), (V.ints .u64 10 a)]⟩ = (mB (decide (i < 255)) (gB (decide (0 ≤ (quoI .i64 i 8) ∧ (quoI .i64 i 8) < 32)) (gB (Nat.blt (0 + (Int.toNat (quoI .i64 i 8) * 1)) 32) (gB (decide (0 ≤ (remI i 8))) (gB (decide (0 ≤ (quoI .i64 i 26) ∧ (quoI .i64 i 26) < 10)) (gB (Nat.blt (0 + (Int.toNat (quoI .i64 i 26) * 1)) 10) (gB (decide (0 ≤ (remI i 26))) (gB (decide (0 ≤ (quoI .i64 i 26) ∧ (quoI .i64 i 26) < 10)) (gB (Nat.blt (0 + (Int.toNat (quoI .i64 i 26) * 1)) 10) (lp (awp Try.prog o37 noG 300 (loopOf (body Try.f36))) Q n ⟨[(V.ints .u8 32 b), (V.ptr 0 0), (V.ptr 1 0), (V.ptr 2 0), (V.int .i64 (addI .i64 i 1)), (V.int .u64 (IntKind.wrap .u64 (andI .u8 (shrI .u8 (b (0 + (Int.toNat (quoI .i64 i 8) * 1))) (remI i 8)) 1))), (V.int .i64 i), (V.bool (decide (i < 255))), (V.int .i64 i), (V.int .i64 (addI .i64 i 1)), (V.int .i64 i), (V.int .i64 (quoI .i64 i 8)), (V.ptr 0 (0 + (Int.toNat (quoI .i64 i 8) * 1))), (V.int .u8 (b (0 + (Int.toNat (quoI .i64 i 8) * 1)))), (V.int .i64 i), (V.int .i64 (remI i 8)), (V.int .u8 (shrI .u8 (b (0 + (Int.toNat (quoI .i64 i 8) * 1))) (remI i 8))), (V.int .u8 (andI .u8 (shrI .u8 (b (0 + (Int.toNat (quoI .i64 i 8) * 1))) (remI i 8)) 1)), (V.int .u64 (IntKind.wrap .u64 (andI .u8 (shrI .u8 (b (0 + (Int.toNat (quoI .i64 i 8) * 1))) (remI i 8)) 1))), (V.int .i64 i), (V.int .i64 (quoI .i64 i 26)), (V.int .i64 i), (V.int .i64 (quoI .i64 i 26)), (V.ptr 2 (0 + (Int.toNat (quoI .i64 i 26) * 1))), (V.int .u64 (a (0 + (Int.toNat (quoI .i64 i 26) * 1)))), (V.int .u64 (IntKind.wrap .u64 (andI .u8 (shrI .u8 (b (0 + (Int.toNat (quoI .i64 i 8) * 1))) (remI i 8)) 1))), (V.int .i64 i), (V.int .i64 (remI i 26)), (V.int .u64 (shlI .u64 (IntKind.wrap .u64 (andI .u8 (shrI .u8 (b (0 + (Int.toNat (quoI .i64 i 8) * 1))) (remI i 8)) 1)) (remI i 26))), (V.int .u64 (addI .u64 (a (0 + (Int.toNat (quoI .i64 i 26) * 1))) (shlI .u64 (IntKind.wrap .u64 (andI .u8 (shrI .u8 (b (0 + (Int.toNat (quoI .i64 i 8) * 1))) (remI i 8)) 1)) (remI i 26)))), (V.ptr 2 (0 + (Int.toNat (quoI .i64 i 26) * 1))), V.un, V.un], [(V.ints .u8 32 b), (V.ints .u64 10 (fun _ => 0)), (V.ints .u64 10 (up (0 + (Int.toNat (quoI .i64 i 26) * 1)) (addI .u64 (a (0 + (Int.toNat (quoI .i64 i 26) * 1))) (shlI .u64 (IntKind.wrap .u64 (andI .u8 (shrI .u8 (b (0 + (Int.toNat (quoI .i64 i 8) * 1))) (remI i 8)) 1)) (remI i 26))) a))]⟩))))))))) (Q (.exit 0) ⟨[(V.ints .u8 32 b), (V.ptr 0 0), (V.ptr 1 0), (V.ptr 2 0), (V.int .i64 i), t5, (V.int .i64 i), (V.bool (decide (i < 255))), t8, t9, t10, t11, t12, t13, t14, t15, t16, t17, t18, t19, t20, t21, t22, t23, t24, t25, t26, t27, t28, t29, t30, V.un, V.un], [(V.ints .u8 32 b), (V.ints .u64 10 (fun _ => 0)), (V.ints .u64 10 a)]⟩)) := by kernel_rfl
theorem rFromBytes_x (b : (Nat → Int)) (a : Nat → Int) (i : Int) (t5 t6 t7 t8 t9 t10 t11 t12 t13 t14 t15 t16 t17 t18 t19 t20 t21 t22 t23 t24 t25 t26 t27 t28 t29 t30 : V) (R : V) : spineQ Try.prog o37 noG 300 (body Try.f36) (ends Try.prog Try.f36 fun v _ => okV R v) (.exit 0) ⟨[(V.ints .u8 32 b), (V.ptr 0 0), (V.ptr 1 0), (V.ptr 2 0), (V.int .i64 i), t5, t6, t7, t8, t9, t10, t11, t12, t13, t14, t15, t16, t17, t18, t19, t20, t21, t22, t23, t24, t25, t26, t27, t28, t29, t30, V.un, V.un], [(V.ints .u8 32 b), (V.ints .u64 10 (fun _ => 0)), (V.ints .u64 10 a)]⟩ = (okV R (V.ints .u64 10 (rLeast (l10 (a 0) (a 1) (a 2) (a 3) (a 4) (a 5) (a 6) (a 7) (a 8) (a 9))))) := by kernel_rfl

/-- The content behind one round more. -/
def rFromBytes_st (b : (Nat → Int)) (i : Int) (a : Nat → Int) : Nat → Int := (up (0 + (Int.toNat (quoI .i64 i 26) * 1)) (addI .u64 (a (0 + (Int.toNat (quoI .i64 i 26) * 1))) (shlI .u64 (IntKind.wrap .u64 (andI .u8 (shrI .u8 (b (0 + (Int.toNat (quoI .i64 i 8) * 1))) (remI i 8)) 1)) (remI i 26))) a)
def rFromBytes_it (b : (Nat → Int)) : Nat → (Nat → Int)
  | 0 => (fun _ => 0)
  | k + 1 => rFromBytes_st b (k : Int) (rFromBytes_it b k)
theorem rFromBytes_l (b : (Nat → Int)) (Q : Exit → St → Prop) (hQ : ∀ (t5 t6 t7 t8 t9 t10 t11 t12 t13 t14 t15 t16 t17 t18 t19 t20 t21 t22 t23 t24 t25 t26 t27 t28 t29 t30 : V), Q (.exit 0) ⟨[(V.ints .u8 32 b), (V.ptr 0 0), (V.ptr 1 0), (V.ptr 2 0), (V.int .i64 ((255 : Nat) : Int)), t5, t6, t7, t8, t9, t10, t11, t12, t13, t14, t15, t16, t17, t18, t19, t20, t21, t22, t23, t24, t25, t26, t27, t28, t29, t30, V.un, V.un], [(V.ints .u8 32 b), (V.ints .u64 10 (fun _ => 0)), (V.ints .u64 10 (rFromBytes_it b 255))]⟩) : ∀ (d k n : Nat), k + d = 255 → d + 1 ≤ n → ∀ (t5 t6 t7 t8 t9 t10 t11 t12 t13 t14 t15 t16 t17 t18 t19 t20 t21 t22 t23 t24 t25 t26 t27 t28 t29 t30 : V), lp (awp Try.prog o37 noG 300 (loopOf (body Try.f36))) Q n ⟨[(V.ints .u8 32 b), (V.ptr 0 0), (V.ptr 1 0), (V.ptr 2 0), (V.int .i64 (k : Int)), t5, t6, t7, t8, t9, t10, t11, t12, t13, t14, t15, t16, t17, t18, t19, t20, t21, t22, t23, t24, t25, t26, t27, t28, t29, t30, V.un, V.un], [(V.ints .u8 32 b), (V.ints .u64 10 (fun _ => 0)), (V.ints .u64 10 (rFromBytes_it b k))]⟩
  | 0, k, n, hk, hn, t5, t6, t7, t8, t9, t10, t11, t12, t13, t14, t15, t16, t17, t18, t19, t20, t21, t22, t23, t24, t25, t26, t27, t28, t29, t30 => by
    obtain ⟨n, rfl⟩ : ∃ m, n = m + 1 := ⟨n - 1, by omega⟩
    obtain rfl : k = 255 := by omega
    rw [rFromBytes_s]
    refine mBt (fun h => absurd (of_decide_eq_true h) (by simp)) (fun _ => ?_)
    exact hQ _ _ _ _ _ _ _ _ _ _ _ _ _ _ _ _ _ _ _ _ _ _ _ _ _ _
  | d + 1, k, n, hk, hn, t5, t6, t7, t8, t9, t10, t11, t12, t13, t14, t15, t16, t17, t18, t19, t20, t21, t22, t23, t24, t25, t26, t27, t28, t29, t30 => by
    obtain ⟨n, rfl⟩ : ∃ m, n = m + 1 := ⟨n - 1, by omega⟩
    have hi : (0 : Int) ≤ (k : Int) ∧ (k : Int) < 255 := by omega
    have g0 : (decide (0 ≤ (quoI .i64 (k : Int) 8) ∧ (quoI .i64 (k : Int) 8) < 32)) = true := by first | (rw [show quoI .i64 (k : Int) 8 = ((k / 8 : Nat) : Int) from quo_nat k 8 (by omega)]; exact bltT.2 (by simp; omega)) | (rw [show quoI .i64 (k : Int) 26 = ((k / 26 : Nat) : Int) from quo_nat k 26 (by omega)]; exact bltT.2 (by simp; omega)) | (rw [show quoI .i64 (k : Int) 8 = ((k / 8 : Nat) : Int) from quo_nat k 8 (by omega)]; simp; omega) | (rw [show quoI .i64 (k : Int) 26 = ((k / 26 : Nat) : Int) from quo_nat k 26 (by omega)]; simp; omega) | (rw [show remI (k : Int) 8 = ((k % 8 : Nat) : Int) from rem_nat k 8]; simp; omega) | (rw [show remI (k : Int) 26 = ((k % 26 : Nat) : Int) from rem_nat k 26]; simp; omega)
    have g1 : (Nat.blt (0 + (Int.toNat (quoI .i64 (k : Int) 8) * 1)) 32) = true := by first | (rw [show quoI .i64 (k : Int) 8 = ((k / 8 : Nat) : Int) from quo_nat k 8 (by omega)]; exact bltT.2 (by simp; omega)) | (rw [show quoI .i64 (k : Int) 26 = ((k / 26 : Nat) : Int) from quo_nat k 26 (by omega)]; exact bltT.2 (by simp; omega)) | (rw [show quoI .i64 (k : Int) 8 = ((k / 8 : Nat) : Int) from quo_nat k 8 (by omega)]; simp; omega) | (rw [show quoI .i64 (k : Int) 26 = ((k / 26 : Nat) : Int) from quo_nat k 26 (by omega)]; simp; omega) | (rw [show remI (k : Int) 8 = ((k % 8 : Nat) : Int) from rem_nat k 8]; simp; omega) | (rw [show remI (k : Int) 26 = ((k % 26 : Nat) : Int) from rem_nat k 26]; simp; omega)
    have g2 : (decide (0 ≤ (remI (k : Int) 8))) = true := by first | (rw [show quoI .i64 (k : Int) 8 = ((k / 8 : Nat) : Int) from quo_nat k 8 (by omega)]; exact bltT.2 (by simp; omega)) | (rw [show quoI .i64 (k : Int) 26 = ((k / 26 : Nat) : Int) from quo_nat k 26 (by omega)]; exact bltT.2 (by simp; omega)) | (rw [show quoI .i64 (k : Int) 8 = ((k / 8 : Nat) : Int) from quo_nat k 8 (by omega)]; simp; omega) | (rw [show quoI .i64 (k : Int) 26 = ((k / 26 : Nat) : Int) from quo_nat k 26 (by omega)]; simp; omega) | (rw [show remI (k : Int) 8 = ((k % 8 : Nat) : Int) from rem_nat k 8]; simp; omega) | (rw [show remI (k : Int) 26 = ((k % 26 : Nat) : Int) from rem_nat k 26]; simp; omega)
    have g3 : (decide (0 ≤ (quoI .i64 (k : Int) 26) ∧ (quoI .i64 (k : Int) 26) < 10)) = true := by first | (rw [show quoI .i64 (k : Int) 8 = ((k / 8 : Nat) : Int) from quo_nat k 8 (by omega)]; exact bltT.2 (by simp; omega)) | (rw [show quoI .i64 (k : Int) 26 = ((k / 26 : Nat) : Int) from quo_nat k 26 (by omega)]; exact bltT.2 (by simp; omega)) | (rw [show quoI .i64 (k : Int) 8 = ((k / 8 : Nat) : Int) from quo_nat k 8 (by omega)]; simp; omega) | (rw [show quoI .i64 (k : Int) 26 = ((k / 26 : Nat) : Int) from quo_nat k 26 (by omega)]; simp; omega) | (rw [show remI (k : Int) 8 = ((k % 8 : Nat) : Int) from rem_nat k 8]; simp; omega) | (rw [show remI (k : Int) 26 = ((k % 26 : Nat) : Int) from rem_nat k 26]; simp; omega)
    have g4 : (Nat.blt (0 + (Int.toNat (quoI .i64 (k : Int) 26) * 1)) 10) = true := by first | (rw [show quoI .i64 (k : Int) 8 = ((k / 8 : Nat) : Int) from quo_nat k 8 (by omega)]; exact bltT.2 (by simp; omega)) | (rw [show quoI .i64 (k : Int) 26 = ((k / 26 : Nat) : Int) from quo_nat k 26 (by omega)]; exact bltT.2 (by simp; omega)) | (rw [show quoI .i64 (k : Int) 8 = ((k / 8 : Nat) : Int) from quo_nat k 8 (by omega)]; simp; omega) | (rw [show quoI .i64 (k : Int) 26 = ((k / 26 : Nat) : Int) from quo_nat k 26 (by omega)]; simp; omega) | (rw [show remI (k : Int) 8 = ((k % 8 : Nat) : Int) from rem_nat k 8]; simp; omega) | (rw [show remI (k : Int) 26 = ((k % 26 : Nat) : Int) from rem_nat k 26]; simp; omega)
    have g5 : (decide (0 ≤ (remI (k : Int) 26))) = true := by first | (rw [show quoI .i64 (k : Int) 8 = ((k / 8 : Nat) : Int) from quo_nat k 8 (by omega)]; exact bltT.2 (by simp; omega)) | (rw [show quoI .i64 (k : Int) 26 = ((k / 26 : Nat) : Int) from quo_nat k 26 (by omega)]; exact bltT.2 (by simp; omega)) | (rw [show quoI .i64 (k : Int) 8 = ((k / 8 : Nat) : Int) from quo_nat k 8 (by omega)]; simp; omega) | (rw [show quoI .i64 (k : Int) 26 = ((k / 26 : Nat) : Int) from quo_nat k 26 (by omega)]; simp; omega) | (rw [show remI (k : Int) 8 = ((k % 8 : Nat) : Int) from rem_nat k 8]; simp; omega) | (rw [show remI (k : Int) 26 = ((k % 26 : Nat) : Int) from rem_nat k 26]; simp; omega)
    have hnx : (addI .i64 (k : Int) 1) = ((k + 1 : Nat) : Int) := by exact add1_nat k (by omega)
    rw [rFromBytes_s]
    refine mBt (fun _ => ?_) (fun h => absurd hi.2 (of_decide_eq_false h))
    refine gm g0 ?_
    refine gm g1 ?_
    refine gm g2 ?_
    refine gm g3 ?_
    refine gm g4 ?_
    refine gm g5 ?_
    refine gm g3 ?_
    refine gm g4 ?_
    rw [hnx]
    have h := rFromBytes_l b Q hQ d (k + 1) n (by omega) (by omega)
    simp only [rFromBytes_it, rFromBytes_st] at h
    exact h _ _ _ _ _ _ _ _ _ _ _ _ _ _ _ _ _ _ _ _ _ _ _ _ _ _

def rFromBytes (b : Nat → Int) : Nat → Int := rLeast (l10 (rFromBytes_it b 255 0) (rFromBytes_it b 255 1) (rFromBytes_it b 255 2) (rFromBytes_it b 255 3) (rFromBytes_it b 255 4) (rFromBytes_it b 255 5) (rFromBytes_it b 255 6) (rFromBytes_it b 255 7) (rFromBytes_it b 255 8) (rFromBytes_it b 255 9))
theorem rFromBytes_a (b : (Nat → Int)) : awp Try.prog o37 noG 300 (body Try.f36) (ends Try.prog Try.f36 fun v _ => okV (V.ints .u64 10 (rFromBytes b)) v) ⟨[(V.ints .u8 32 b)] ++ List.replicate 32 V.un, []⟩ := by
  rw [rFromBytes_h]
  exact rFromBytes_l b _ (fun _ _ _ _ _ _ _ _ _ _ _ _ _ _ _ _ _ _ _ _ _ _ _ _ _ _ => by rw [rFromBytes_x]; exact okV_refl rfl) 255 0 300 (by omega) (by omega) _ _ _ _ _ _ _ _ _ _ _ _ _ _ _ _ _ _ _ _ _ _ _ _ _ _

def g36 : List V → Option (Bool × V) := fun | [.ints .u8 32 b] => some (true, (V.ints .u64 10 (rFromBytes b))) | _ => none
theorem rFromBytes_p (b : (Nat → Int)) : (∀ μ μ', V.den μ' (V.ints .u64 10 (rFromBytes b)) = V.den μ (V.ints .u64 10 (rFromBytes b))) ∧ ∀ μ w, PureAt Try.prog 36 (([(V.ints .u8 32 b)] : List V).map (V.den μ)).toArray (V.den μ (V.ints .u64 10 (rFromBytes b))) w :=
  pure_ok (F := o37) (N := 300) (fn := Try.f36) (args := [(V.ints .u8 32 b)]) (r := (V.ints .u64 10 (rFromBytes b))) (n := 32) hM o37_ok (noG_ok _) Try.func36 (by kernel_rfl) (by kernel_rfl) (by kernel_rfl) (by kernel_rfl) (rFromBytes_a b) (by kernel_rfl)
theorem g36_ok (vs : List V) (v : V) (h : g36 vs = some (true, v)) : (∀ μ μ', v.den μ' = v.den μ) ∧ ∀ μ w, PureAt Try.prog 36 (vs.map (V.den μ)).toArray (v.den μ) w := by
  unfold g36 at h
  split at h
  · simp only [Option.some.injEq, Prod.mk.injEq, true_and] at h
    subst h
    exact rFromBytes_p _
  · simp at h
def o36 : Orc := ext 36 g36 o37
theorem o36_ok : OrcOK Try.prog o36 := ext_ok o37_ok g36_ok
end Go.Proofs.Ytbnclikjbnfodaa

namespace Go.Proofs.Ytbnclikjbnfodaa
open Go.Ev
theorem rBytes_h (a0 : (Nat → Int)) (N : Nat) (K : V → List V → Prop) : awp Try.prog o36 noG N (body Try.f40) (ends Try.prog Try.f40 K) ⟨[(V.ints .u64 10 a0)] ++ List.replicate 31 V.un, []⟩ = lp (awp Try.prog o36 noG N (loopOf (body Try.f40))) (spineQ Try.prog o36 noG N (body Try.f40) (ends Try.prog Try.f40 K)) N ⟨[(V.ints .u64 10 a0), (V.ptr 0 0), (V.ptr 1 0), (V.ptr 2 0), (V.int .i64 0), V.un, V.un, V.un, V.un, V.un, V.un, V.un, V.un, V.un, V.un, V.un, V.un, V.un, V.un, V.un, V.un, V.un, V.un, V.un, V.un, V.un, V.un, V.un, V.un, V.un, V.un, V.un], [(V.ints .u64 10 a0), (V.ints .u8 32 (fun _ => 0)), (V.ints .u8 32 (fun _ => 0))]⟩ := by kernel_rfl
theorem rBytes_s (a0 : (Nat → Int)) (a : Nat → Int) (i : Int) (t5 t6 t7 t8 t9 t10 t11 t12 t13 t14 t15 t16 t17 t18 t19 t20 t21 t22 t23 t24 t25 t26 t27 t28 t29 t30 : V) (Q : Exit → St → Prop) (n : Nat) : lp (awp Try.prog o36 noG 300 (loopOf (body Try.f40))) Q (n + 1) ⟨[(V.ints .u64 10 a0), (V.ptr 0 0), (V.ptr 1 0), (V.ptr 2 0), (V.int .i64 i), t5, t6, t7, t8, t9, t10, t11, t12, t13, t14, t15, t16, t17, t18, t19, t20, t21, t22, t23, t24, t25, t26, t27, t28, t29, t30, V.un], [(V.ints .u64 10 a0), (V.ints .u8 32 (fun _ => 0)), (V.ints .u8 32 a)]⟩ = (mB (decide (i < 255)) (gB (decide (0 ≤ (quoI .i64 i 26) ∧ (quoI .i64 i 26) < 10)) (gB (Nat.blt (0 + (Int.toNat (quoI .i64 i 26) * 1)) 10) (gB (decide (0 ≤ (remI i 26))) (gB (decide (0 ≤ (quoI .i64 i 8) ∧ (quoI .i64 i 8) < 32)) (gB (Nat.blt (0 + (Int.toNat (quoI .i64 i 8) * 1)) 32) (gB (decide (0 ≤ (remI i 8))) (gB (decide (0 ≤ (quoI .i64 i 8) ∧ (quoI .i64 i 8) < 32)) (gB (Nat.blt (0 + (Int.toNat (quoI .i64 i 8) * 1)) 32) (lp (awp Try.prog o36 noG 300 (loopOf (body Try.f40))) Q n ⟨[(V.ints .u64 10 a0), (V.ptr 0 0), (V.ptr 1 0), (V.ptr 2 0), (V.int .i64 (addI .i64 i 1)), (V.int .u8 (IntKind.wrap .u8 (andI .u64 (shrI .u64 (a0 (0 + (Int.toNat (quoI .i64 i 26) * 1))) (remI i 26)) 1))), (V.int .i64 i), (V.bool (decide (i < 255))), (V.int .i64 i), (V.int .i64 (addI .i64 i 1)), (V.int .i64 i), (V.int .i64 (quoI .i64 i 26)), (V.ptr 0 (0 + (Int.toNat (quoI .i64 i 26) * 1))), (V.int .u64 (a0 (0 + (Int.toNat (quoI .i64 i 26) * 1)))), (V.int .i64 i), (V.int .i64 (remI i 26)), (V.int .u64 (shrI .u64 (a0 (0 + (Int.toNat (quoI .i64 i 26) * 1))) (remI i 26))), (V.int .u64 (andI .u64 (shrI .u64 (a0 (0 + (Int.toNat (quoI .i64 i 26) * 1))) (remI i 26)) 1)), (V.int .u8 (IntKind.wrap .u8 (andI .u64 (shrI .u64 (a0 (0 + (Int.toNat (quoI .i64 i 26) * 1))) (remI i 26)) 1))), (V.int .i64 i), (V.int .i64 (quoI .i64 i 8)), (V.int .i64 i), (V.int .i64 (quoI .i64 i 8)), (V.ptr 2 (0 + (Int.toNat (quoI .i64 i 8) * 1))), (V.int .u8 (a (0 + (Int.toNat (quoI .i64 i 8) * 1)))), (V.int .u8 (IntKind.wrap .u8 (andI .u64 (shrI .u64 (a0 (0 + (Int.toNat (quoI .i64 i 26) * 1))) (remI i 26)) 1))), (V.int .i64 i), (V.int .i64 (remI i 8)), (V.int .u8 (shlI .u8 (IntKind.wrap .u8 (andI .u64 (shrI .u64 (a0 (0 + (Int.toNat (quoI .i64 i 26) * 1))) (remI i 26)) 1)) (remI i 8))), (V.int .u8 (addI .u8 (a (0 + (Int.toNat (quoI .i64 i 8) * 1))) (shlI .u8 (IntKind.wrap .u8 (andI .u64 (shrI .u64 (a0 (0 + (Int.toNat (quoI .i64 i 26) * 1))) (remI i 26)) 1)) (remI i 8)))), (V.ptr 2 (0 + (Int.toNat (quoI .i64 i 8) * 1))), V.un], [(V.ints .u64 10 a0), (V.ints .u8 32 (fun _ => 0)), (V.ints .u8 32 (up (0 + (Int.toNat (quoI .i64 i 8) * 1)) (addI .u8 (a (0 + (Int.toNat (quoI .i64 i 8) * 1))) (shlI .u8 (IntKind.wrap .u8 (andI .u64 (shrI .u64 (a0 (0 + (Int.toNat (quoI .i64 i 26) * 1))) (remI i 26)) 1)) (remI i 8))) a))]⟩))))))))) (Q (.exit 0) ⟨[(V.ints .u64 10 a0), (V.ptr 0 0), (V.ptr 1 0), (V.ptr 2 0), (V.int .i64 i), t5, (V.int .i64 i), (V.bool (decide (i < 255))), t8, t9, t10, t11, t12, t13, t14, t15, t16, t17, t18, t19, t20, t21, t22, t23, t24, t25, t26, t27, t28, t29, t30, V.un], [(V.ints .u64 10 a0), (V.ints .u8 32 (fun _ => 0)), (V.ints .u8 32 a)]⟩)) := by kernel_rfl
theorem rBytes_x (a0 : (Nat → Int)) (a : Nat → Int) (i : Int) (t5 t6 t7 t8 t9 t10 t11 t12 t13 t14 t15 t16 t17 t18 t19 t20 t21 t22 t23 t24 t25 t26 t27 t28 t29 t30 : V) (R : V) : spineQ Try.prog o36 noG 300 (body Try.f40) (ends Try.prog Try.f40 fun v _ => okV R v) (.exit 0) ⟨[(V.ints .u64 10 a0), (V.ptr 0 0), (V.ptr 1 0), (V.ptr 2 0), (V.int .i64 i), t5, t6, t7, t8, t9, t10, t11, t12, t13, t14, t15, t16, t17, t18, t19, t20, t21, t22, t23, t24, t25, t26, t27, t28, t29, t30, V.un], [(V.ints .u64 10 a0), (V.ints .u8 32 (fun _ => 0)), (V.ints .u8 32 a)]⟩ = (okV R (V.ints .u8 32 a)) := by kernel_rfl

/-- The content behind one round more. -/
def rBytes_st (a0 : (Nat → Int)) (i : Int) (a : Nat → Int) : Nat → Int := (up (0 + (Int.toNat (quoI .i64 i 8) * 1)) (addI .u8 (a (0 + (Int.toNat (quoI .i64 i 8) * 1))) (shlI .u8 (IntKind.wrap .u8 (andI .u64 (shrI .u64 (a0 (0 + (Int.toNat (quoI .i64 i 26) * 1))) (remI i 26)) 1)) (remI i 8))) a)
def rBytes_it (a0 : (Nat → Int)) : Nat → (Nat → Int)
  | 0 => (fun _ => 0)
  | k + 1 => rBytes_st a0 (k : Int) (rBytes_it a0 k)
theorem rBytes_l (a0 : (Nat → Int)) (Q : Exit → St → Prop) (hQ : ∀ (t5 t6 t7 t8 t9 t10 t11 t12 t13 t14 t15 t16 t17 t18 t19 t20 t21 t22 t23 t24 t25 t26 t27 t28 t29 t30 : V), Q (.exit 0) ⟨[(V.ints .u64 10 a0), (V.ptr 0 0), (V.ptr 1 0), (V.ptr 2 0), (V.int .i64 ((255 : Nat) : Int)), t5, t6, t7, t8, t9, t10, t11, t12, t13, t14, t15, t16, t17, t18, t19, t20, t21, t22, t23, t24, t25, t26, t27, t28, t29, t30, V.un], [(V.ints .u64 10 a0), (V.ints .u8 32 (fun _ => 0)), (V.ints .u8 32 (rBytes_it a0 255))]⟩) : ∀ (d k n : Nat), k + d = 255 → d + 1 ≤ n → ∀ (t5 t6 t7 t8 t9 t10 t11 t12 t13 t14 t15 t16 t17 t18 t19 t20 t21 t22 t23 t24 t25 t26 t27 t28 t29 t30 : V), lp (awp Try.prog o36 noG 300 (loopOf (body Try.f40))) Q n ⟨[(V.ints .u64 10 a0), (V.ptr 0 0), (V.ptr 1 0), (V.ptr 2 0), (V.int .i64 (k : Int)), t5, t6, t7, t8, t9, t10, t11, t12, t13, t14, t15, t16, t17, t18, t19, t20, t21, t22, t23, t24, t25, t26, t27, t28, t29, t30, V.un], [(V.ints .u64 10 a0), (V.ints .u8 32 (fun _ => 0)), (V.ints .u8 32 (rBytes_it a0 k))]⟩
  | 0, k, n, hk, hn, t5, t6, t7, t8, t9, t10, t11, t12, t13, t14, t15, t16, t17, t18, t19, t20, t21, t22, t23, t24, t25, t26, t27, t28, t29, t30 => by
    obtain ⟨n, rfl⟩ : ∃ m, n = m + 1 := ⟨n - 1, by omega⟩
    obtain rfl : k = 255 := by omega
    rw [rBytes_s]
    refine mBt (fun h => absurd (of_decide_eq_true h) (by simp)) (fun _ => ?_)
    exact hQ _ _ _ _ _ _ _ _ _ _ _ _ _ _ _ _ _ _ _ _ _ _ _ _ _ _
  | d + 1, k, n, hk, hn, t5, t6, t7, t8, t9, t10, t11, t12, t13, t14, t15, t16, t17, t18, t19, t20, t21, t22, t23, t24, t25, t26, t27, t28, t29, t30 => by
    obtain ⟨n, rfl⟩ : ∃ m, n = m + 1 := ⟨n - 1, by omega⟩
    have hi : (0 : Int) ≤ (k : Int) ∧ (k : Int) < 255 := by omega
    have g0 : (decide (0 ≤ (quoI .i64 (k : Int) 26) ∧ (quoI .i64 (k : Int) 26) < 10)) = true := by first | (rw [show quoI .i64 (k : Int) 8 = ((k / 8 : Nat) : Int) from quo_nat k 8 (by omega)]; exact bltT.2 (by simp; omega)) | (rw [show quoI .i64 (k : Int) 26 = ((k / 26 : Nat) : Int) from quo_nat k 26 (by omega)]; exact bltT.2 (by simp; omega)) | (rw [show quoI .i64 (k : Int) 8 = ((k / 8 : Nat) : Int) from quo_nat k 8 (by omega)]; simp; omega) | (rw [show quoI .i64 (k : Int) 26 = ((k / 26 : Nat) : Int) from quo_nat k 26 (by omega)]; simp; omega) | (rw [show remI (k : Int) 8 = ((k % 8 : Nat) : Int) from rem_nat k 8]; simp; omega) | (rw [show remI (k : Int) 26 = ((k % 26 : Nat) : Int) from rem_nat k 26]; simp; omega)
    have g1 : (Nat.blt (0 + (Int.toNat (quoI .i64 (k : Int) 26) * 1)) 10) = true := by first | (rw [show quoI .i64 (k : Int) 8 = ((k / 8 : Nat) : Int) from quo_nat k 8 (by omega)]; exact bltT.2 (by simp; omega)) | (rw [show quoI .i64 (k : Int) 26 = ((k / 26 : Nat) : Int) from quo_nat k 26 (by omega)]; exact bltT.2 (by simp; omega)) | (rw [show quoI .i64 (k : Int) 8 = ((k / 8 : Nat) : Int) from quo_nat k 8 (by omega)]; simp; omega) | (rw [show quoI .i64 (k : Int) 26 = ((k / 26 : Nat) : Int) from quo_nat k 26 (by omega)]; simp; omega) | (rw [show remI (k : Int) 8 = ((k % 8 : Nat) : Int) from rem_nat k 8]; simp; omega) | (rw [show remI (k : Int) 26 = ((k % 26 : Nat) : Int) from rem_nat k 26]; simp; omega)
    have g2 : (decide (0 ≤ (remI (k : Int) 26))) = true := by first | (rw [show quoI .i64 (k : Int) 8 = ((k / 8 : Nat) : Int) from quo_nat k 8 (by omega)]; exact bltT.2 (by simp; omega)) | (rw [show quoI .i64 (k : Int) 26 = ((k / 26 : Nat) : Int) from quo_nat k 26 (by omega)]; exact bltT.2 (by simp; omega)) | (rw [show quoI .i64 (k : Int) 8 = ((k / 8 : Nat) : Int) from quo_nat k 8 (by omega)]; simp; omega) | (rw [show quoI .i64 (k : Int) 26 = ((k / 26 : Nat) : Int) from quo_nat k 26 (by omega)]; simp; omega) | (rw [show remI (k : Int) 8 = ((k % 8 : Nat) : Int) from rem_nat k 8]; simp; omega) | (rw [show remI (k : Int) 26 = ((k % 26 : Nat) : Int) from rem_nat k 26]; simp; omega)
    have g3 : (decide (0 ≤ (quoI .i64 (k : Int) 8) ∧ (quoI .i64 (k : Int) 8) < 32)) = true := by first | (rw [show quoI .i64 (k : Int) 8 = ((k / 8 : Nat) : Int) from quo_nat k 8 (by omega)]; exact bltT.2 (by simp; omega)) | (rw [show quoI .i64 (k : Int) 26 = ((k / 26 : Nat) : Int) from quo_nat k 26 (by omega)]; exact bltT.2 (by simp; omega)) | (rw [show quoI .i64 (k : Int) 8 = ((k / 8 : Nat) : Int) from quo_nat k 8 (by omega)]; simp; omega) | (rw [show quoI .i64 (k : Int) 26 = ((k / 26 : Nat) : Int) from quo_nat k 26 (by omega)]; simp; omega) | (rw [show remI (k : Int) 8 = ((k % 8 : Nat) : Int) from rem_nat k 8]; simp; omega) | (rw [show remI (k : Int) 26 = ((k % 26 : Nat) : Int) from rem_nat k 26]; simp; omega)
    have g4 : (Nat.blt (0 + (Int.toNat (quoI .i64 (k : Int) 8) * 1)) 32) = true := by first | (rw [show quoI .i64 (k : Int) 8 = ((k / 8 : Nat) : Int) from quo_nat k 8 (by omega)]; exact bltT.2 (by simp; omega)) | (rw [show quoI .i64 (k : Int) 26 = ((k / 26 : Nat) : Int) from quo_nat k 26 (by omega)]; exact bltT.2 (by simp; omega)) | (rw [show quoI .i64 (k : Int) 8 = ((k / 8 : Nat) : Int) from quo_nat k 8 (by omega)]; simp; omega) | (rw [show quoI .i64 (k : Int) 26 = ((k / 26 : Nat) : Int) from quo_nat k 26 (by omega)]; simp; omega) | (rw [show remI (k : Int) 8 = ((k % 8 : Nat) : Int) from rem_nat k 8]; simp; omega) | (rw [show remI (k : Int) 26 = ((k % 26 : Nat) : Int) from rem_nat k 26]; simp; omega)
    have g5 : (decide (0 ≤ (remI (k : Int) 8))) = true := by first | (rw [show quoI .i64 (k : Int) 8 = ((k / 8 : Nat) : Int) from quo_nat k 8 (by omega)]; exact bltT.2 (by simp; omega)) | (rw [show quoI .i64 (k : Int) 26 = ((k / 26 : Nat) : Int) from quo_nat k 26 (by omega)]; exact bltT.2 (by simp; omega)) | (rw [show quoI .i64 (k : Int) 8 = ((k / 8 : Nat) : Int) from quo_nat k 8 (by omega)]; simp; omega) | (rw [show quoI .i64 (k : Int) 26 = ((k / 26 : Nat) : Int) from quo_nat k 26 (by omega)]; simp; omega) | (rw [show remI (k : Int) 8 = ((k % 8 : Nat) : Int) from rem_nat k 8]; simp; omega) | (rw [show remI (k : Int) 26 = ((k % 26 : Nat) : Int) from rem_nat k 26]; simp; omega)
    have hnx : (addI .i64 (k : Int) 1) = ((k + 1 : Nat) : Int) := by exact add1_nat k (by omega)
    rw [rBytes_s]
    refine mBt (fun _ => ?_) (fun h => absurd hi.2 (of_decide_eq_false h))
    refine gm g0 ?_
    refine gm g1 ?_
    refine gm g2 ?_
    refine gm g3 ?_
    refine gm g4 ?_
    refine gm g5 ?_
    refine gm g3 ?_
    refine gm g4 ?_
    rw [hnx]
    have h := rBytes_l a0 Q hQ d (k + 1) n (by omega) (by omega)
    simp only [rBytes_it, rBytes_st] at h
    exact h _ _ _ _ _ _ _ _ _ _ _ _ _ _ _ _ _ _ _ _ _ _ _ _ _ _

def rBytes (a0 : Nat → Int) : Nat → Int := rBytes_it a0 255
theorem rBytes_a (a0 : (Nat → Int)) : awp Try.prog o36 noG 300 (body Try.f40) (ends Try.prog Try.f40 fun v _ => okV (V.ints .u8 32 (rBytes a0)) v) ⟨[(V.ints .u64 10 a0)] ++ List.replicate 31 V.un, []⟩ := by
  rw [rBytes_h]
  exact rBytes_l a0 _ (fun _ _ _ _ _ _ _ _ _ _ _ _ _ _ _ _ _ _ _ _ _ _ _ _ _ _ => by rw [rBytes_x]; exact okV_refl rfl) 255 0 300 (by omega) (by omega) _ _ _ _ _ _ _ _ _ _ _ _ _ _ _ _ _ _ _ _ _ _ _ _ _ _

def g40 : List V → Option (Bool × V) := fun | [.ints .u64 10 a0] => some (true, (V.ints .u8 32 (rBytes a0))) | _ => none
theorem rBytes_p (a0 : (Nat → Int)) : (∀ μ μ', V.den μ' (V.ints .u8 32 (rBytes a0)) = V.den μ (V.ints .u8 32 (rBytes a0))) ∧ ∀ μ w, PureAt Try.prog 40 (([(V.ints .u64 10 a0)] : List V).map (V.den μ)).toArray (V.den μ (V.ints .u8 32 (rBytes a0))) w :=
  pure_ok (F := o36) (N := 300) (fn := Try.f40) (args := [(V.ints .u64 10 a0)]) (r := (V.ints .u8 32 (rBytes a0))) (n := 31) hM o36_ok (noG_ok _) Try.func40 (by kernel_rfl) (by kernel_rfl) (by kernel_rfl) (by kernel_rfl) (rBytes_a a0) (by kernel_rfl)
theorem g40_ok (vs : List V) (v : V) (h : g40 vs = some (true, v)) : (∀ μ μ', v.den μ' = v.den μ) ∧ ∀ μ w, PureAt Try.prog 40 (vs.map (V.den μ)).toArray (v.den μ) w := by
  unfold g40 at h
  split at h
  · simp only [Option.some.injEq, Prod.mk.injEq, true_and] at h
    subst h
    exact rBytes_p _
  · simp at h
def o40 : Orc := ext 40 g40 o36
theorem o40_ok : OrcOK Try.prog o40 := ext_ok o36_ok g40_ok

/- fareboxref05.Canonical -/
def rCanonical (b : (Nat → Int)) : Bool := (eqN 32 (rBytes (rFromBytes b)) b)
theorem rCanonical_t (b : (Nat → Int)) : awp Try.prog o40 noG 300 (body Try.f38) (ends Try.prog Try.f38 fun v _ => okV (V.bool (rCanonical b)) v) ⟨[(V.ints .u8 32 b)] ++ List.replicate 7 V.un, []⟩ = ((V.bool (rCanonical b)).den z0 = (V.bool (rCanonical b)).den z0) := by kernel_rfl
theorem rCanonical_a (b : (Nat → Int)) : awp Try.prog o40 noG 300 (body Try.f38) (ends Try.prog Try.f38 fun v _ => okV (V.bool (rCanonical b)) v) ⟨[(V.ints .u8 32 b)] ++ List.replicate 7 V.un, []⟩ := by rw [rCanonical_t]
def g38 : List V → Option (Bool × V) := fun | [.ints .u8 32 b] => some (true, (V.bool (rCanonical b))) | _ => none
theorem rCanonical_p (b : (Nat → Int)) : (∀ μ μ', V.den μ' (V.bool (rCanonical b)) = V.den μ (V.bool (rCanonical b))) ∧ ∀ μ w, PureAt Try.prog 38 (([(V.ints .u8 32 b)] : List V).map (V.den μ)).toArray (V.den μ (V.bool (rCanonical b))) w :=
  pure_ok (F := o40) (N := 300) (fn := Try.f38) (args := [(V.ints .u8 32 b)]) (r := (V.bool (rCanonical b))) (n := 7) hM o40_ok (noG_ok _) Try.func38 (by kernel_rfl) (by kernel_rfl) (by kernel_rfl) (by kernel_rfl) (rCanonical_a b) (by kernel_rfl)
theorem g38_ok (vs : List V) (v : V) (h : g38 vs = some (true, v)) : (∀ μ μ', v.den μ' = v.den μ) ∧ ∀ μ w, PureAt Try.prog 38 (vs.map (V.den μ)).toArray (v.den μ) w := by
  unfold g38 at h
  split at h
  · simp only [Option.some.injEq, Prod.mk.injEq, true_and] at h
    subst h
    exact rCanonical_p _
  · simp at h
def o38 : Orc := ext 38 g38 o40
theorem o38_ok : OrcOK Try.prog o38 := ext_ok o40_ok g38_ok
end Go.Proofs.Ytbnclikjbnfodaa

namespace Go.Proofs.Ytbnclikjbnfodaa
open Go.Ev
/- fareboxlaw05.FieldBytes -/
def lawBytes (b : (Nat → Int)) (x : (Nat → Int)) (n : Int) : Bool := (cond (!(isE (fromBytesF b) (rFromBytes b))) false (cond (!((canonicalF b) == (rCanonical b))) false (cond (eqN 32 (bytesF x) (rBytes (rOf x))) (isE (smallF n) (rSmall n)) false)))
theorem lawBytes_t (b : (Nat → Int)) (x : (Nat → Int)) (n : Int) : awp Try.prog o38 noG 300 (body Try.f5) (ends Try.prog Try.f5 fun v _ => okV (V.bool (lawBytes b x n)) v) ⟨[(V.ints .u8 32 b), (V.ints .u64 5 x), (V.int .u64 n)] ++ List.replicate 30 V.un, []⟩ = (mB (!(isE (fromBytesF b) (rFromBytes b))) ((V.bool false).den z0 = (V.bool (lawBytes b x n)).den z0) (mB (!((canonicalF b) == (rCanonical b))) ((V.bool false).den z0 = (V.bool (lawBytes b x n)).den z0) (mB (eqN 32 (bytesF x) (rBytes (rOf x))) ((V.bool (isE (smallF n) (rSmall n))).den z0 = (V.bool (lawBytes b x n)).den z0) ((V.bool false).den z0 = (V.bool (lawBytes b x n)).den z0)))) := by kernel_rfl
theorem lawBytes_a (b : (Nat → Int)) (x : (Nat → Int)) (n : Int) : awp Try.prog o38 noG 300 (body Try.f5) (ends Try.prog Try.f5 fun v _ => okV (V.bool (lawBytes b x n)) v) ⟨[(V.ints .u8 32 b), (V.ints .u64 5 x), (V.int .u64 n)] ++ List.replicate 30 V.un, []⟩ := by
  rw [lawBytes_t]
  refine mBt (fun h1 => ?_) (fun h1 => ?_)
  · simp only [lawBytes, h1, cond_true]
  · refine mBt (fun h2 => ?_) (fun h2 => ?_)
    · simp only [lawBytes, h1, h2, cond_true, cond_false]
    · refine mBt (fun h3 => ?_) (fun h3 => ?_)
      · simp only [lawBytes, h1, h2, h3, cond_true, cond_false]
      · simp only [lawBytes, h1, h2, h3, cond_false]
def g5 : List V → Option (Bool × V) := fun | [.ints .u8 32 b, .ints .u64 5 x, .int .u64 n] => some (true, (V.bool (lawBytes b x n))) | _ => none
theorem lawBytes_p (b : (Nat → Int)) (x : (Nat → Int)) (n : Int) : (∀ μ μ', V.den μ' (V.bool (lawBytes b x n)) = V.den μ (V.bool (lawBytes b x n))) ∧ ∀ μ w, PureAt Try.prog 5 (([(V.ints .u8 32 b), (V.ints .u64 5 x), (V.int .u64 n)] : List V).map (V.den μ)).toArray (V.den μ (V.bool (lawBytes b x n))) w :=
  pure_ok (F := o38) (N := 300) (fn := Try.f5) (args := [(V.ints .u8 32 b), (V.ints .u64 5 x), (V.int .u64 n)]) (r := (V.bool (lawBytes b x n))) (n := 30) hM o38_ok (noG_ok _) Try.func5 (by kernel_rfl) (by kernel_rfl) (by kernel_rfl) (by kernel_rfl) (lawBytes_a b x n) (by kernel_rfl)
theorem g5_ok (vs : List V) (v : V) (h : g5 vs = some (true, v)) : (∀ μ μ', v.den μ' = v.den μ) ∧ ∀ μ w, PureAt Try.prog 5 (vs.map (V.den μ)).toArray (v.den μ) w := by
  unfold g5 at h
  split at h
  · simp only [Option.some.injEq, Prod.mk.injEq, true_and] at h
    subst h
    exact lawBytes_p _ _ _
  · simp at h
def o5 : Orc := ext 5 g5 o38
theorem o5_ok : OrcOK Try.prog o5 := ext_ok o38_ok g5_ok
end Go.Proofs.Ytbnclikjbnfodaa

/-
  Bytes and numbers: what FromBytes and Bytes come to, the program's and the document's. Conditions: none.
-/
namespace Go.Ev

theorem wrap_u8 (a : Int) : IntKind.wrap .u8 a = a % 256 := by simp [IntKind.wrap, IntKind.bits, IntKind.signed]
theorem or_addN {x y k : Nat} (hx : x < 2 ^ k) (hlt : x + y * 2 ^ k < 18446744073709551616) : orI .u64 (x : Int) ((y * 2 ^ k : Nat) : Int) = ((x + y * 2 ^ k : Nat) : Int) := by
  have h2 : x ||| y * 2 ^ k = x + y * 2 ^ k := by
    rw [Nat.or_comm, Nat.mul_comm, ← Nat.two_pow_add_eq_or_of_lt hx, Nat.add_comm]
  generalize y * 2 ^ k = z at *
  unfold orI bits2
  have b1 : (BitVec.ofInt (IntKind.bits .u64) (x : Int)).toNat = x := by
    rw [BitVec.toNat_ofInt]
    show (((x : Int) % 18446744073709551616)).toNat = x
    omega
  have b2 : (BitVec.ofInt (IntKind.bits .u64) (z : Int)).toNat = z := by
    rw [BitVec.toNat_ofInt]
    show ((z : Int) % 18446744073709551616).toNat = z
    omega
  rw [BitVec.toNat_or, b1, b2, wrap_u64, h2]
  omega
theorem or_add {a m : Int} (k : Nat) (h0 : 0 ≤ a) (h1 : a < 2 ^ k) (hm : 0 ≤ m) (hlt : a + m * 2 ^ k < 18446744073709551616) : orI .u64 a (m * 2 ^ k) = a + m * 2 ^ k := by
  obtain ⟨x, rfl⟩ := Int.eq_ofNat_of_zero_le h0
  obtain ⟨y, rfl⟩ := Int.eq_ofNat_of_zero_le hm
  have e : (y : Int) * 2 ^ k = ((y * 2 ^ k : Nat) : Int) := by push_cast; rfl
  have hx : x < 2 ^ k := by exact_mod_cast h1
  rw [e] at hlt ⊢
  rw [or_addN hx (by omega)]
  omega
theorem tL {c : Int} (k : Nat) (h : 0 ≤ c ∧ c < 256) (hk : k ≤ 43) : andI .u64 (shlI .u64 (IntKind.wrap .u64 c) (k : Int)) 2251799813685247 = c * 2 ^ k := by
  have hp : (0 : Int) < 2 ^ k := Go.Num.pow_pos' (by omega) k
  have hp2 : (2 : Int) ^ k ≤ 2 ^ 43 := by
    have : 2 ^ k ≤ 2 ^ 43 := Nat.pow_le_pow_right (by omega) hk
    exact_mod_cast this
  have e43 : (2 : Int) ^ 43 = 8796093022208 := by decide
  have h1 : 0 ≤ c * 2 ^ k := Int.mul_nonneg h.1 (by omega)
  have h2 : c * 2 ^ k ≤ 255 * 8796093022208 := Int.mul_le_mul (by omega) (by omega) (by omega) (by omega)
  rw [and51, shlU _ _ (by omega), wrap_u64, Go.Num.sm' c (by omega) (by omega), Go.Num.sm' (c * 2 ^ k) h1 (by omega)]
  exact Int.emod_eq_of_lt h1 (by omega)
theorem tM {c : Int} (k l : Nat) (h : 0 ≤ c ∧ c < 256) (hk : k + l = 51) (hl : l ≤ 8) : andI .u64 (shlI .u64 (IntKind.wrap .u64 c) (k : Int)) 2251799813685247 = c % 2 ^ l * 2 ^ k := by
  have hp : (0 : Int) < 2 ^ k := Go.Num.pow_pos' (by omega) k
  have hp2 : (2 : Int) ^ k ≤ 2 ^ 51 := by
    have : 2 ^ k ≤ 2 ^ 51 := Nat.pow_le_pow_right (by omega) (by omega)
    exact_mod_cast this
  have e51 : (2 : Int) ^ 51 = 2251799813685248 := by decide
  have h1 : 0 ≤ c * 2 ^ k := Int.mul_nonneg h.1 (by omega)
  have h2 : c * 2 ^ k ≤ 255 * 2251799813685248 := Int.mul_le_mul (by omega) (by omega) (by omega) (by omega)
  rw [and51, shlU _ _ (by omega), wrap_u64, Go.Num.sm' c (by omega) (by omega), Go.Num.sm' (c * 2 ^ k) h1 (by omega)]
  have : (2251799813685248 : Int) = 2 ^ l * 2 ^ k := by rw [← Int.pow_add, ← e51]; congr 1; omega
  rw [this, Int.mul_comm c, Int.mul_comm (2 ^ l), Int.mul_emod_mul_of_pos _ _ hp, Int.mul_comm]
theorem tR {c : Int} (k : Nat) (h : 0 ≤ c ∧ c < 256) (hk : k ≤ 64) : shrI .u64 (IntKind.wrap .u64 c) (k : Int) = c / 2 ^ k := by
  rw [shrU _ _ hk, wrap_u64, Go.Num.sm' c (by omega) (by omega)]
theorem or_zero {a : Int} (h0 : 0 ≤ a) (h1 : a < 18446744073709551616) : orI .u64 0 a = a := by
  have := or_add (a := 0) (m := a) 0 (by omega) (by simp) h0 (by simpa using h1)
  simpa using this
theorem and8_7 (a : Int) : andI .u8 a 127 = a % 128 := by
  unfold andI bits2
  have e1 : (BitVec.ofInt (IntKind.bits .u8) a).toNat = (a % 256).toNat := by rw [BitVec.toNat_ofInt]; rfl
  have e2 : (BitVec.ofInt (IntKind.bits .u8) 127).toNat = 2 ^ 7 - 1 := by decide
  rw [BitVec.toNat_and, e1, e2, Nat.and_two_pow_sub_one_eq_mod, wrap_u8]
  omega
end Go.Ev
namespace Go.Proofs.Ytbnclikjbnfodaa
open Go.Ev Go.Num

def B32 (b : Nat → Int) : Prop := ∀ j, j < 32 → 0 ≤ b j ∧ b j < 256
def vb (b : Nat → Int) : Int := dv 256 32 b

def fbL0 (b : Nat → Int) : Int := (b 0) + (b 1) * 256 + (b 2) * 65536 + (b 3) * 16777216 + (b 4) * 4294967296 + (b 5) * 1099511627776 + (b 6 % 8) * 281474976710656
theorem fb_limb0 {b : Nat → Int} (h : B32 b) : (orI .u64 (orI .u64 (orI .u64 (orI .u64 (orI .u64 (orI .u64 (orI .u64 0 (andI .u64 (shlI .u64 (IntKind.wrap .u64 (b 0)) 0) 2251799813685247)) (andI .u64 (shlI .u64 (IntKind.wrap .u64 (b 1)) 8) 2251799813685247)) (andI .u64 (shlI .u64 (IntKind.wrap .u64 (b 2)) 16) 2251799813685247)) (andI .u64 (shlI .u64 (IntKind.wrap .u64 (b 3)) 24) 2251799813685247)) (andI .u64 (shlI .u64 (IntKind.wrap .u64 (b 4)) 32) 2251799813685247)) (andI .u64 (shlI .u64 (IntKind.wrap .u64 (b 5)) 40) 2251799813685247)) (andI .u64 (shlI .u64 (IntKind.wrap .u64 (b 6)) 48) 2251799813685247)) = fbL0 b ∧ 0 ≤ fbL0 b ∧ fbL0 b < 2251799813685248 := by
  have h0 := h 0 (by omega)
  have h1 := h 1 (by omega)
  have h2 := h 2 (by omega)
  have h3 := h 3 (by omega)
  have h4 := h 4 (by omega)
  have h5 := h 5 (by omega)
  have h6 := h 6 (by omega)
  have t0 : (andI .u64 (shlI .u64 (IntKind.wrap .u64 (b 0)) 0) 2251799813685247) = (b 0) * 2 ^ 0 := tL 0 h0 (by omega)
  have t1 : (andI .u64 (shlI .u64 (IntKind.wrap .u64 (b 1)) 8) 2251799813685247) = (b 1) * 2 ^ 8 := tL 8 h1 (by omega)
  have t2 : (andI .u64 (shlI .u64 (IntKind.wrap .u64 (b 2)) 16) 2251799813685247) = (b 2) * 2 ^ 16 := tL 16 h2 (by omega)
  have t3 : (andI .u64 (shlI .u64 (IntKind.wrap .u64 (b 3)) 24) 2251799813685247) = (b 3) * 2 ^ 24 := tL 24 h3 (by omega)
  have t4 : (andI .u64 (shlI .u64 (IntKind.wrap .u64 (b 4)) 32) 2251799813685247) = (b 4) * 2 ^ 32 := tL 32 h4 (by omega)
  have t5 : (andI .u64 (shlI .u64 (IntKind.wrap .u64 (b 5)) 40) 2251799813685247) = (b 5) * 2 ^ 40 := tL 40 h5 (by omega)
  have t6 : (andI .u64 (shlI .u64 (IntKind.wrap .u64 (b 6)) 48) 2251799813685247) = (b 6 % 8) * 2 ^ 48 := tM 48 3 h6 (by omega) (by omega)
  rw [t0, t1, t2, t3, t4, t5, t6]
  rw [or_add 0 (by omega) (by omega) (by omega) (by omega)]
  rw [or_add 8 (by omega) (by omega) (by omega) (by omega)]
  rw [or_add 16 (by omega) (by omega) (by omega) (by omega)]
  rw [or_add 24 (by omega) (by omega) (by omega) (by omega)]
  rw [or_add 32 (by omega) (by omega) (by omega) (by omega)]
  rw [or_add 40 (by omega) (by omega) (by omega) (by omega)]
  rw [or_add 48 (by omega) (by omega) (by omega) (by omega)]
  unfold fbL0
  refine ⟨by omega, by omega, by omega⟩

def fbL1 (b : Nat → Int) : Int := (b 6 / 8) + (b 7) * 32 + (b 8) * 8192 + (b 9) * 2097152 + (b 10) * 536870912 + (b 11) * 137438953472 + (b 12 % 64) * 35184372088832
theorem fb_limb1 {b : Nat → Int} (h : B32 b) : (orI .u64 (orI .u64 (orI .u64 (orI .u64 (orI .u64 (orI .u64 (orI .u64 0 (shrI .u64 (IntKind.wrap .u64 (b 6)) 3)) (andI .u64 (shlI .u64 (IntKind.wrap .u64 (b 7)) 5) 2251799813685247)) (andI .u64 (shlI .u64 (IntKind.wrap .u64 (b 8)) 13) 2251799813685247)) (andI .u64 (shlI .u64 (IntKind.wrap .u64 (b 9)) 21) 2251799813685247)) (andI .u64 (shlI .u64 (IntKind.wrap .u64 (b 10)) 29) 2251799813685247)) (andI .u64 (shlI .u64 (IntKind.wrap .u64 (b 11)) 37) 2251799813685247)) (andI .u64 (shlI .u64 (IntKind.wrap .u64 (b 12)) 45) 2251799813685247)) = fbL1 b ∧ 0 ≤ fbL1 b ∧ fbL1 b < 2251799813685248 := by
  have h6 := h 6 (by omega)
  have h7 := h 7 (by omega)
  have h8 := h 8 (by omega)
  have h9 := h 9 (by omega)
  have h10 := h 10 (by omega)
  have h11 := h 11 (by omega)
  have h12 := h 12 (by omega)
  have t0 : (shrI .u64 (IntKind.wrap .u64 (b 6)) 3) = b 6 / 8 := tR 3 h6 (by omega)
  have t1 : (andI .u64 (shlI .u64 (IntKind.wrap .u64 (b 7)) 5) 2251799813685247) = (b 7) * 2 ^ 5 := tL 5 h7 (by omega)
  have t2 : (andI .u64 (shlI .u64 (IntKind.wrap .u64 (b 8)) 13) 2251799813685247) = (b 8) * 2 ^ 13 := tL 13 h8 (by omega)
  have t3 : (andI .u64 (shlI .u64 (IntKind.wrap .u64 (b 9)) 21) 2251799813685247) = (b 9) * 2 ^ 21 := tL 21 h9 (by omega)
  have t4 : (andI .u64 (shlI .u64 (IntKind.wrap .u64 (b 10)) 29) 2251799813685247) = (b 10) * 2 ^ 29 := tL 29 h10 (by omega)
  have t5 : (andI .u64 (shlI .u64 (IntKind.wrap .u64 (b 11)) 37) 2251799813685247) = (b 11) * 2 ^ 37 := tL 37 h11 (by omega)
  have t6 : (andI .u64 (shlI .u64 (IntKind.wrap .u64 (b 12)) 45) 2251799813685247) = (b 12 % 64) * 2 ^ 45 := tM 45 6 h12 (by omega) (by omega)
  rw [t0, t1, t2, t3, t4, t5, t6]
  rw [or_zero (by omega) (by omega)]
  rw [or_add 5 (by omega) (by omega) (by omega) (by omega)]
  rw [or_add 13 (by omega) (by omega) (by omega) (by omega)]
  rw [or_add 21 (by omega) (by omega) (by omega) (by omega)]
  rw [or_add 29 (by omega) (by omega) (by omega) (by omega)]
  rw [or_add 37 (by omega) (by omega) (by omega) (by omega)]
  rw [or_add 45 (by omega) (by omega) (by omega) (by omega)]
  unfold fbL1
  refine ⟨by omega, by omega, by omega⟩

def fbL2 (b : Nat → Int) : Int := (b 12 / 64) + (b 13) * 4 + (b 14) * 1024 + (b 15) * 262144 + (b 16) * 67108864 + (b 17) * 17179869184 + (b 18) * 4398046511104 + (b 19 % 2) * 1125899906842624
theorem fb_limb2 {b : Nat → Int} (h : B32 b) : (orI .u64 (orI .u64 (orI .u64 (orI .u64 (orI .u64 (orI .u64 (orI .u64 (orI .u64 0 (shrI .u64 (IntKind.wrap .u64 (b 12)) 6)) (andI .u64 (shlI .u64 (IntKind.wrap .u64 (b 13)) 2) 2251799813685247)) (andI .u64 (shlI .u64 (IntKind.wrap .u64 (b 14)) 10) 2251799813685247)) (andI .u64 (shlI .u64 (IntKind.wrap .u64 (b 15)) 18) 2251799813685247)) (andI .u64 (shlI .u64 (IntKind.wrap .u64 (b 16)) 26) 2251799813685247)) (andI .u64 (shlI .u64 (IntKind.wrap .u64 (b 17)) 34) 2251799813685247)) (andI .u64 (shlI .u64 (IntKind.wrap .u64 (b 18)) 42) 2251799813685247)) (andI .u64 (shlI .u64 (IntKind.wrap .u64 (b 19)) 50) 2251799813685247)) = fbL2 b ∧ 0 ≤ fbL2 b ∧ fbL2 b < 2251799813685248 := by
  have h12 := h 12 (by omega)
  have h13 := h 13 (by omega)
  have h14 := h 14 (by omega)
  have h15 := h 15 (by omega)
  have h16 := h 16 (by omega)
  have h17 := h 17 (by omega)
  have h18 := h 18 (by omega)
  have h19 := h 19 (by omega)
  have t0 : (shrI .u64 (IntKind.wrap .u64 (b 12)) 6) = b 12 / 64 := tR 6 h12 (by omega)
  have t1 : (andI .u64 (shlI .u64 (IntKind.wrap .u64 (b 13)) 2) 2251799813685247) = (b 13) * 2 ^ 2 := tL 2 h13 (by omega)
  have t2 : (andI .u64 (shlI .u64 (IntKind.wrap .u64 (b 14)) 10) 2251799813685247) = (b 14) * 2 ^ 10 := tL 10 h14 (by omega)
  have t3 : (andI .u64 (shlI .u64 (IntKind.wrap .u64 (b 15)) 18) 2251799813685247) = (b 15) * 2 ^ 18 := tL 18 h15 (by omega)
  have t4 : (andI .u64 (shlI .u64 (IntKind.wrap .u64 (b 16)) 26) 2251799813685247) = (b 16) * 2 ^ 26 := tL 26 h16 (by omega)
  have t5 : (andI .u64 (shlI .u64 (IntKind.wrap .u64 (b 17)) 34) 2251799813685247) = (b 17) * 2 ^ 34 := tL 34 h17 (by omega)
  have t6 : (andI .u64 (shlI .u64 (IntKind.wrap .u64 (b 18)) 42) 2251799813685247) = (b 18) * 2 ^ 42 := tL 42 h18 (by omega)
  have t7 : (andI .u64 (shlI .u64 (IntKind.wrap .u64 (b 19)) 50) 2251799813685247) = (b 19 % 2) * 2 ^ 50 := tM 50 1 h19 (by omega) (by omega)
  rw [t0, t1, t2, t3, t4, t5, t6, t7]
  rw [or_zero (by omega) (by omega)]
  rw [or_add 2 (by omega) (by omega) (by omega) (by omega)]
  rw [or_add 10 (by omega) (by omega) (by omega) (by omega)]
  rw [or_add 18 (by omega) (by omega) (by omega) (by omega)]
  rw [or_add 26 (by omega) (by omega) (by omega) (by omega)]
  rw [or_add 34 (by omega) (by omega) (by omega) (by omega)]
  rw [or_add 42 (by omega) (by omega) (by omega) (by omega)]
  rw [or_add 50 (by omega) (by omega) (by omega) (by omega)]
  unfold fbL2
  refine ⟨by omega, by omega, by omega⟩

def fbL3 (b : Nat → Int) : Int := (b 19 / 2) + (b 20) * 128 + (b 21) * 32768 + (b 22) * 8388608 + (b 23) * 2147483648 + (b 24) * 549755813888 + (b 25 % 16) * 140737488355328
theorem fb_limb3 {b : Nat → Int} (h : B32 b) : (orI .u64 (orI .u64 (orI .u64 (orI .u64 (orI .u64 (orI .u64 (orI .u64 0 (shrI .u64 (IntKind.wrap .u64 (b 19)) 1)) (andI .u64 (shlI .u64 (IntKind.wrap .u64 (b 20)) 7) 2251799813685247)) (andI .u64 (shlI .u64 (IntKind.wrap .u64 (b 21)) 15) 2251799813685247)) (andI .u64 (shlI .u64 (IntKind.wrap .u64 (b 22)) 23) 2251799813685247)) (andI .u64 (shlI .u64 (IntKind.wrap .u64 (b 23)) 31) 2251799813685247)) (andI .u64 (shlI .u64 (IntKind.wrap .u64 (b 24)) 39) 2251799813685247)) (andI .u64 (shlI .u64 (IntKind.wrap .u64 (b 25)) 47) 2251799813685247)) = fbL3 b ∧ 0 ≤ fbL3 b ∧ fbL3 b < 2251799813685248 := by
  have h19 := h 19 (by omega)
  have h20 := h 20 (by omega)
  have h21 := h 21 (by omega)
  have h22 := h 22 (by omega)
  have h23 := h 23 (by omega)
  have h24 := h 24 (by omega)
  have h25 := h 25 (by omega)
  have t0 : (shrI .u64 (IntKind.wrap .u64 (b 19)) 1) = b 19 / 2 := tR 1 h19 (by omega)
  have t1 : (andI .u64 (shlI .u64 (IntKind.wrap .u64 (b 20)) 7) 2251799813685247) = (b 20) * 2 ^ 7 := tL 7 h20 (by omega)
  have t2 : (andI .u64 (shlI .u64 (IntKind.wrap .u64 (b 21)) 15) 2251799813685247) = (b 21) * 2 ^ 15 := tL 15 h21 (by omega)
  have t3 : (andI .u64 (shlI .u64 (IntKind.wrap .u64 (b 22)) 23) 2251799813685247) = (b 22) * 2 ^ 23 := tL 23 h22 (by omega)
  have t4 : (andI .u64 (shlI .u64 (IntKind.wrap .u64 (b 23)) 31) 2251799813685247) = (b 23) * 2 ^ 31 := tL 31 h23 (by omega)
  have t5 : (andI .u64 (shlI .u64 (IntKind.wrap .u64 (b 24)) 39) 2251799813685247) = (b 24) * 2 ^ 39 := tL 39 h24 (by omega)
  have t6 : (andI .u64 (shlI .u64 (IntKind.wrap .u64 (b 25)) 47) 2251799813685247) = (b 25 % 16) * 2 ^ 47 := tM 47 4 h25 (by omega) (by omega)
  rw [t0, t1, t2, t3, t4, t5, t6]
  rw [or_zero (by omega) (by omega)]
  rw [or_add 7 (by omega) (by omega) (by omega) (by omega)]
  rw [or_add 15 (by omega) (by omega) (by omega) (by omega)]
  rw [or_add 23 (by omega) (by omega) (by omega) (by omega)]
  rw [or_add 31 (by omega) (by omega) (by omega) (by omega)]
  rw [or_add 39 (by omega) (by omega) (by omega) (by omega)]
  rw [or_add 47 (by omega) (by omega) (by omega) (by omega)]
  unfold fbL3
  refine ⟨by omega, by omega, by omega⟩

def fbL4 (b : Nat → Int) : Int := (b 25 / 16) + (b 26) * 16 + (b 27) * 4096 + (b 28) * 1048576 + (b 29) * 268435456 + (b 30) * 68719476736 + (b 31 % 128 % 128) * 17592186044416
theorem fb_limb4 {b : Nat → Int} (h : B32 b) : (orI .u64 (orI .u64 (orI .u64 (orI .u64 (orI .u64 (orI .u64 (orI .u64 0 (shrI .u64 (IntKind.wrap .u64 (b 25)) 4)) (andI .u64 (shlI .u64 (IntKind.wrap .u64 (b 26)) 4) 2251799813685247)) (andI .u64 (shlI .u64 (IntKind.wrap .u64 (b 27)) 12) 2251799813685247)) (andI .u64 (shlI .u64 (IntKind.wrap .u64 (b 28)) 20) 2251799813685247)) (andI .u64 (shlI .u64 (IntKind.wrap .u64 (b 29)) 28) 2251799813685247)) (andI .u64 (shlI .u64 (IntKind.wrap .u64 (b 30)) 36) 2251799813685247)) (andI .u64 (shlI .u64 (IntKind.wrap .u64 (andI .u8 (b 31) 127)) 44) 2251799813685247)) = fbL4 b ∧ 0 ≤ fbL4 b ∧ fbL4 b < 2251799813685248 := by
  have h25 := h 25 (by omega)
  have h26 := h 26 (by omega)
  have h27 := h 27 (by omega)
  have h28 := h 28 (by omega)
  have h29 := h 29 (by omega)
  have h30 := h 30 (by omega)
  have h31 := h 31 (by omega)
  have t0 : (shrI .u64 (IntKind.wrap .u64 (b 25)) 4) = b 25 / 16 := tR 4 h25 (by omega)
  have t1 : (andI .u64 (shlI .u64 (IntKind.wrap .u64 (b 26)) 4) 2251799813685247) = (b 26) * 2 ^ 4 := tL 4 h26 (by omega)
  have t2 : (andI .u64 (shlI .u64 (IntKind.wrap .u64 (b 27)) 12) 2251799813685247) = (b 27) * 2 ^ 12 := tL 12 h27 (by omega)
  have t3 : (andI .u64 (shlI .u64 (IntKind.wrap .u64 (b 28)) 20) 2251799813685247) = (b 28) * 2 ^ 20 := tL 20 h28 (by omega)
  have t4 : (andI .u64 (shlI .u64 (IntKind.wrap .u64 (b 29)) 28) 2251799813685247) = (b 29) * 2 ^ 28 := tL 28 h29 (by omega)
  have t5 : (andI .u64 (shlI .u64 (IntKind.wrap .u64 (b 30)) 36) 2251799813685247) = (b 30) * 2 ^ 36 := tL 36 h30 (by omega)
  have t6 : (andI .u64 (shlI .u64 (IntKind.wrap .u64 (andI .u8 (b 31) 127)) 44) 2251799813685247) = (andI .u8 (b 31) 127 % 128) * 2 ^ 44 := tM 44 7 (by rw [and8_7]; omega) (by omega) (by omega)
  rw [t0, t1, t2, t3, t4, t5, t6]
  rw [and8_7]
  rw [or_zero (by omega) (by omega)]
  rw [or_add 4 (by omega) (by omega) (by omega) (by omega)]
  rw [or_add 12 (by omega) (by omega) (by omega) (by omega)]
  rw [or_add 20 (by omega) (by omega) (by omega) (by omega)]
  rw [or_add 28 (by omega) (by omega) (by omega) (by omega)]
  rw [or_add 36 (by omega) (by omega) (by omega) (by omega)]
  rw [or_add 44 (by omega) (by omega) (by omega) (by omega)]
  unfold fbL4
  refine ⟨by omega, by omega, by omega⟩

theorem fromBytes_v {b : Nat → Int} (h : B32 b) : v5 (fromBytesF b) = vb b % 57896044618658097711785492504343953926634992332820282019728792003956564819968 % p ∧ R5 (fromBytesF b) := by
  have e : fromBytesF b = reduceF (L [fbL0 b, fbL1 b, fbL2 b, fbL3 b, fbL4 b]) := by
    unfold fromBytesF
    rw [(fb_limb0 h).1, (fb_limb1 h).1, (fb_limb2 h).1, (fb_limb3 h).1, (fb_limb4 h).1]
  have l0 := (fb_limb0 h).2; have l1 := (fb_limb1 h).2; have l2 := (fb_limb2 h).2; have l3 := (fb_limb3 h).2; have l4 := (fb_limb4 h).2
  have hr := reduce_v (x := L [fbL0 b, fbL1 b, fbL2 b, fbL3 b, fbL4 b]) (five ⟨by show 0 ≤ fbL0 b ∧ fbL0 b < _; omega, by show 0 ≤ fbL1 b ∧ fbL1 b < _; omega, by show 0 ≤ fbL2 b ∧ fbL2 b < _; omega, by show 0 ≤ fbL3 b ∧ fbL3 b < _; omega, by show 0 ≤ fbL4 b ∧ fbL4 b < _; omega⟩)
  rw [← e] at hr
  have hv : v5 (L [fbL0 b, fbL1 b, fbL2 b, fbL3 b, fbL4 b]) = vb b % 57896044618658097711785492504343953926634992332820282019728792003956564819968 := by
    rw [v5_eq]
    show fbL0 b + 2251799813685248 * (fbL1 b + 2251799813685248 * (fbL2 b + 2251799813685248 * (fbL3 b + 2251799813685248 * fbL4 b))) = _
    have hs : vb b = (fbL0 b + 2251799813685248 * (fbL1 b + 2251799813685248 * (fbL2 b + 2251799813685248 * (fbL3 b + 2251799813685248 * fbL4 b)))) + 57896044618658097711785492504343953926634992332820282019728792003956564819968 * (b 31 / 128) := by
      unfold vb
      simp only [dv]
      simp only [Nat.reduceAdd, Int.mul_zero, Int.add_zero]
      unfold fbL0 fbL1 fbL2 fbL3 fbL4
      omega
    rw [hs, Int.add_mul_emod_self_left]
    exact (Int.emod_eq_of_lt (by omega) (by omega)).symm
  rw [hv] at hr
  exact hr
end Go.Proofs.Ytbnclikjbnfodaa
