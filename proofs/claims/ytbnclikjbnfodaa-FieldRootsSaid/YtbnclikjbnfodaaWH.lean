import Derived.Test.YtbnclikjbnfodaaWG
import Derived.Test.YtbnclikjbnfodaaRows
namespace Go.Proofs.Ytbnclikjbnfodaa
open Go.Ev
/- field.FromBytes -/
def fromBytesF (b : (Nat → Int)) : (Nat → Int) := (reduceF (L [(orI .u64 (orI .u64 (orI .u64 (orI .u64 (orI .u64 (orI .u64 (orI .u64 0 (andI .u64 (shlI .u64 (IntKind.wrap .u64 (b 0)) 0) 2251799813685247)) (andI .u64 (shlI .u64 (IntKind.wrap .u64 (b 1)) 8) 2251799813685247)) (andI .u64 (shlI .u64 (IntKind.wrap .u64 (b 2)) 16) 2251799813685247)) (andI .u64 (shlI .u64 (IntKind.wrap .u64 (b 3)) 24) 2251799813685247)) (andI .u64 (shlI .u64 (IntKind.wrap .u64 (b 4)) 32) 2251799813685247)) (andI .u64 (shlI .u64 (IntKind.wrap .u64 (b 5)) 40) 2251799813685247)) (andI .u64 (shlI .u64 (IntKind.wrap .u64 (b 6)) 48) 2251799813685247)), (orI .u64 (orI .u64 (orI .u64 (orI .u64 (orI .u64 (orI .u64 (orI .u64 0 (shrI .u64 (IntKind.wrap .u64 (b 6)) 3)) (andI .u64 (shlI .u64 (IntKind.wrap .u64 (b 7)) 5) 2251799813685247)) (andI .u64 (shlI .u64 (IntKind.wrap .u64 (b 8)) 13) 2251799813685247)) (andI .u64 (shlI .u64 (IntKind.wrap .u64 (b 9)) 21) 2251799813685247)) (andI .u64 (shlI .u64 (IntKind.wrap .u64 (b 10)) 29) 2251799813685247)) (andI .u64 (shlI .u64 (IntKind.wrap .u64 (b 11)) 37) 2251799813685247)) (andI .u64 (shlI .u64 (IntKind.wrap .u64 (b 12)) 45) 2251799813685247)), (orI .u64 (orI .u64 (orI .u64 (orI .u64 (orI .u64 (orI .u64 (orI .u64 (orI .u64 0 (shrI .u64 (IntKind.wrap .u64 (b 12)) 6)) (andI .u64 (shlI .u64 (IntKind.wrap .u64 (b 13)) 2) 2251799813685247)) (andI .u64 (shlI .u64 (IntKind.wrap .u64 (b 14)) 10) 2251799813685247)) (andI .u64 (shlI .u64 (IntKind.wrap .u64 (b 15)) 18) 2251799813685247)) (andI .u64 (shlI .u64 (IntKind.wrap .u64 (b 16)) 26) 2251799813685247)) (andI .u64 (shlI .u64 (IntKind.wrap .u64 (b 17)) 34) 2251799813685247)) (andI .u64 (shlI .u64 (IntKind.wrap .u64 (b 18)) 42) 2251799813685247)) (andI .u64 (shlI .u64 (IntKind.wrap .u64 (b 19)) 50) 2251799813685247)), (orI .u64 (orI .u64 (orI .u64 (orI .u64 (orI .u64 (orI .u64 (orI .u64 0 (shrI .u64 (IntKind.wrap .u64 (b 19)) 1)) (andI .u64 (shlI .u64 (IntKind.wrap .u64 (b 20)) 7) 2251799813685247)) (andI .u64 (shlI .u64 (IntKind.wrap .u64 (b 21)) 15) 2251799813685247)) (andI .u64 (shlI .u64 (IntKind.wrap .u64 (b 22)) 23) 2251799813685247)) (andI .u64 (shlI .u64 (IntKind.wrap .u64 (b 23)) 31) 2251799813685247)) (andI .u64 (shlI .u64 (IntKind.wrap .u64 (b 24)) 39) 2251799813685247)) (andI .u64 (shlI .u64 (IntKind.wrap .u64 (b 25)) 47) 2251799813685247)), (orI .u64 (orI .u64 (orI .u64 (orI .u64 (orI .u64 (orI .u64 (orI .u64 0 (shrI .u64 (IntKind.wrap .u64 (b 25)) 4)) (andI .u64 (shlI .u64 (IntKind.wrap .u64 (b 26)) 4) 2251799813685247)) (andI .u64 (shlI .u64 (IntKind.wrap .u64 (b 27)) 12) 2251799813685247)) (andI .u64 (shlI .u64 (IntKind.wrap .u64 (b 28)) 20) 2251799813685247)) (andI .u64 (shlI .u64 (IntKind.wrap .u64 (b 29)) 28) 2251799813685247)) (andI .u64 (shlI .u64 (IntKind.wrap .u64 (b 30)) 36) 2251799813685247)) (andI .u64 (shlI .u64 (IntKind.wrap .u64 (andI .u8 (b 31) 127)) 44) 2251799813685247))]))
theorem fromBytesF_t (b : (Nat → Int)) : awp Try.prog o27 noG 300 (body Try.f35) (ends Try.prog Try.f35 fun v _ => okV (V.ints .u64 5 (fromBytesF b)) v) ⟨[(V.ints .u8 32 b)] ++ List.replicate 52 V.un, []⟩ = ((V.ints .u64 5 (fromBytesF b)).den z0 = (V.ints .u64 5 (fromBytesF b)).den z0) := by kernel_rfl
theorem fromBytesF_a (b : (Nat → Int)) : awp Try.prog o27 noG 300 (body Try.f35) (ends Try.prog Try.f35 fun v _ => okV (V.ints .u64 5 (fromBytesF b)) v) ⟨[(V.ints .u8 32 b)] ++ List.replicate 52 V.un, []⟩ := by rw [fromBytesF_t]
def g35 : List V → Option (Bool × V) := fun | [.ints .u8 32 b] => some (true, (V.ints .u64 5 (fromBytesF b))) | _ => none
theorem fromBytesF_p (b : (Nat → Int)) : (∀ μ μ', V.den μ' (V.ints .u64 5 (fromBytesF b)) = V.den μ (V.ints .u64 5 (fromBytesF b))) ∧ ∀ μ w, PureAt Try.prog 35 (([(V.ints .u8 32 b)] : List V).map (V.den μ)).toArray (V.den μ (V.ints .u64 5 (fromBytesF b))) w :=
  pure_ok (F := o27) (N := 300) (fn := Try.f35) (args := [(V.ints .u8 32 b)]) (r := (V.ints .u64 5 (fromBytesF b))) (n := 52) hM o27_ok (noG_ok _) Try.func35 (by kernel_rfl) (by kernel_rfl) (by kernel_rfl) (by kernel_rfl) (fromBytesF_a b) (by kernel_rfl)
theorem g35_ok (vs : List V) (v : V) (h : g35 vs = some (true, v)) : (∀ μ μ', v.den μ' = v.den μ) ∧ ∀ μ w, PureAt Try.prog 35 (vs.map (V.den μ)).toArray (v.den μ) w := by
  unfold g35 at h
  split at h
  · simp only [Option.some.injEq, Prod.mk.injEq, true_and] at h
    subst h
    exact fromBytesF_p _
  · simp at h
def o35 : Orc := ext 35 g35 o27
theorem o35_ok : OrcOK Try.prog o35 := ext_ok o27_ok g35_ok

/- field.Bytes -/
def bytesF (x : Nat → Int) : Nat → Int := fun i => IntKind.wrap .u8 (bif (Nat.blt 43 (8 * i % 51) && Nat.blt (8 * i / 51) 4) then orI .u64 (shrI .u64 (reduceF x (8 * i / 51)) ((8 * i % 51 : Nat) : Int)) (shlI .u64 (reduceF x (8 * i / 51 + 1)) ((51 - 8 * i % 51 : Nat) : Int)) else shrI .u64 (reduceF x (8 * i / 51)) ((8 * i % 51 : Nat) : Int))
theorem bytesF_t (x : (Nat → Int)) : awp Try.prog o35 noG 300 (body Try.f39) (ends Try.prog Try.f39 fun v _ => okV (V.ints .u8 32 (bytesF x)) v) ⟨[(V.ints .u64 5 x)] ++ List.replicate 44 V.un, []⟩ = ((V.ints .u8 32 (bytesF x)).den z0 = (V.ints .u8 32 (bytesF x)).den z0) := by kernel_rfl
theorem bytesF_a (x : (Nat → Int)) : awp Try.prog o35 noG 300 (body Try.f39) (ends Try.prog Try.f39 fun v _ => okV (V.ints .u8 32 (bytesF x)) v) ⟨[(V.ints .u64 5 x)] ++ List.replicate 44 V.un, []⟩ := by rw [bytesF_t]
def g39 : List V → Option (Bool × V) := fun | [.ints .u64 5 x] => some (true, (V.ints .u8 32 (bytesF x))) | _ => none
theorem bytesF_p (x : (Nat → Int)) : (∀ μ μ', V.den μ' (V.ints .u8 32 (bytesF x)) = V.den μ (V.ints .u8 32 (bytesF x))) ∧ ∀ μ w, PureAt Try.prog 39 (([(V.ints .u64 5 x)] : List V).map (V.den μ)).toArray (V.den μ (V.ints .u8 32 (bytesF x))) w :=
  pure_ok (F := o35) (N := 300) (fn := Try.f39) (args := [(V.ints .u64 5 x)]) (r := (V.ints .u8 32 (bytesF x))) (n := 44) hM o35_ok (noG_ok _) Try.func39 (by kernel_rfl) (by kernel_rfl) (by kernel_rfl) (by kernel_rfl) (bytesF_a x) (by kernel_rfl)
theorem g39_ok (vs : List V) (v : V) (h : g39 vs = some (true, v)) : (∀ μ μ', v.den μ' = v.den μ) ∧ ∀ μ w, PureAt Try.prog 39 (vs.map (V.den μ)).toArray (v.den μ) w := by
  unfold g39 at h
  split at h
  · simp only [Option.some.injEq, Prod.mk.injEq, true_and] at h
    subst h
    exact bytesF_p _
  · simp at h
def o39 : Orc := ext 39 g39 o35
theorem o39_ok : OrcOK Try.prog o39 := ext_ok o35_ok g39_ok

/- field.Canonical -/
def canonicalF (b : (Nat → Int)) : Bool := (eqN 32 (bytesF (fromBytesF b)) b)
theorem canonicalF_t (b : (Nat → Int)) : awp Try.prog o39 noG 300 (body Try.f37) (ends Try.prog Try.f37 fun v _ => okV (V.bool (canonicalF b)) v) ⟨[(V.ints .u8 32 b)] ++ List.replicate 7 V.un, []⟩ = ((V.bool (canonicalF b)).den z0 = (V.bool (canonicalF b)).den z0) := by kernel_rfl
theorem canonicalF_a (b : (Nat → Int)) : awp Try.prog o39 noG 300 (body Try.f37) (ends Try.prog Try.f37 fun v _ => okV (V.bool (canonicalF b)) v) ⟨[(V.ints .u8 32 b)] ++ List.replicate 7 V.un, []⟩ := by rw [canonicalF_t]
def g37 : List V → Option (Bool × V) := fun | [.ints .u8 32 b] => some (true, (V.bool (canonicalF b))) | _ => none
theorem canonicalF_p (b : (Nat → Int)) : (∀ μ μ', V.den μ' (V.bool (canonicalF b)) = V.den μ (V.bool (canonicalF b))) ∧ ∀ μ w, PureAt Try.prog 37 (([(V.ints .u8 32 b)] : List V).map (V.den μ)).toArray (V.den μ (V.bool (canonicalF b))) w :=
  pure_ok (F := o39) (N := 300) (fn := Try.f37) (args := [(V.ints .u8 32 b)]) (r := (V.bool (canonicalF b))) (n := 7) hM o39_ok (noG_ok _) Try.func37 (by kernel_rfl) (by kernel_rfl) (by kernel_rfl) (by kernel_rfl) (canonicalF_a b) (by kernel_rfl)
theorem g37_ok (vs : List V) (v : V) (h : g37 vs = some (true, v)) : (∀ μ μ', v.den μ' = v.den μ) ∧ ∀ μ w, PureAt Try.prog 37 (vs.map (V.den μ)).toArray (v.den μ) w := by
  unfold g37 at h
  split at h
  · simp only [Option.some.injEq, Prod.mk.injEq, true_and] at h
    subst h
    exact canonicalF_p _
  · simp at h
def o37 : Orc := ext 37 g37 o39
theorem o37_ok : OrcOK Try.prog o37 := ext_ok o39_ok g37_ok
end Go.Proofs.Ytbnclikjbnfodaa
