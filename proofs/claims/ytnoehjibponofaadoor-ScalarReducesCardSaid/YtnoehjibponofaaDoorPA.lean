/-
  The words' own functions: products and sums with carry, a width, words out of bytes and back. Conditions: none.
-/
import Derived.Test.YtnoehjibponofaaDoorSA
import Derived.Laws.Externs
namespace Go.Proofs.YtnoehjibponofaaDoor
open Go.Ev
/- bits.Add64, bits.Sub64: the model's own entries -/
def aS (x y c : Int) : Int := (((x.toNat + y.toNat + c.toNat) % 18446744073709551616 : Nat) : Int)
def aC (x y c : Int) : Int := (((x.toNat + y.toNat + c.toNat) / 18446744073709551616 : Nat) : Int)
def sD (x y c : Int) : Int := (((x.toNat + 18446744073709551616 - y.toNat - c.toNat) % 18446744073709551616 : Nat) : Int)
def sB (x y c : Int) : Int := ((if x.toNat < y.toNat + c.toNat then 1 else 0 : Nat) : Int)
theorem run_add {P : Program} (x y c : Int) (hc : c.toNat ≤ 1) (w : World) :
    (add64Entry #[.int .u64 x, .int .u64 y, .int .u64 c]).run P w = .ok (.tuple #[.int .u64 (aS x y c), .int .u64 (aC x y c)]) w := by
  cases c with
  | ofNat k =>
    have hc : k ≤ 1 := hc
    have : k = 0 ∨ k = 1 := by omega
    rcases this with rfl | rfl <;> rfl
  | negSucc k => rfl
def sub64Entry : Array Value → Sem Value := fun args => do
  let (x, y, b) ← Extern.MathBitsCarry.three "Sub64" args
  pure (Extern.MathBitsCarry.pair ((x + Extern.MathBitsCarry.m64 - y - b) % Extern.MathBitsCarry.m64) (if x < y + b then 1 else 0))
theorem run_sub {P : Program} (x y c : Int) (hc : c.toNat ≤ 1) (w : World) :
    (sub64Entry #[.int .u64 x, .int .u64 y, .int .u64 c]).run P w = .ok (.tuple #[.int .u64 (sD x y c), .int .u64 (sB x y c)]) w := by
  cases c with
  | ofNat k =>
    have hc : k ≤ 1 := hc
    have : k = 0 ∨ k = 1 := by omega
    rcases this with rfl | rfl <;> rfl
  | negSucc k => rfl
def g67 : List V → Option (Bool × V) := fun | [.int .u64 x, .int .u64 y, .int .u64 c] => some (Nat.ble c.toNat 1, .tup [.int .u64 (aS x y c), .int .u64 (aC x y c)]) | _ => none
theorem g67_ok (vs : List V) (v : V) (h : g67 vs = some (true, v)) : (∀ μ μ', v.den μ' = v.den μ) ∧ ∀ μ w, PureAt Tryd.prog 67 (vs.map (V.den μ)).toArray (v.den μ) w := by
  unfold g67 at h
  split at h
  · rename_i x y c
    simp only [Option.some.injEq, Prod.mk.injEq] at h
    obtain ⟨h, rfl⟩ := h
    refine ⟨fun μ μ' => by simp [V.den, V.dens], fun μ w => .inl ?_⟩
    rw [run_callFunc_extern Tryd.func67 (by kernel_rfl) (by kernel_rfl) (by kernel_rfl) (e := add64Entry) (by kernel_rfl)]
    simp only [List.map_cons, List.map_nil, V.den, V.dens]
    rw [run_add x y c (bleT.1 h)]
    rfl
  · simp at h
def p67 : Orc := ext 67 g67 orc0
theorem p67_ok : OrcOK Tryd.prog p67 := ext_ok orc0_ok g67_ok
def g65 : List V → Option (Bool × V) := fun | [.int .u64 x, .int .u64 y, .int .u64 c] => some (Nat.ble c.toNat 1, .tup [.int .u64 (sD x y c), .int .u64 (sB x y c)]) | _ => none
theorem g65_ok (vs : List V) (v : V) (h : g65 vs = some (true, v)) : (∀ μ μ', v.den μ' = v.den μ) ∧ ∀ μ w, PureAt Tryd.prog 65 (vs.map (V.den μ)).toArray (v.den μ) w := by
  unfold g65 at h
  split at h
  · rename_i x y c
    simp only [Option.some.injEq, Prod.mk.injEq] at h
    obtain ⟨h, rfl⟩ := h
    refine ⟨fun μ μ' => by simp [V.den, V.dens], fun μ w => .inl ?_⟩
    rw [run_callFunc_extern Tryd.func65 (by kernel_rfl) (by kernel_rfl) (by kernel_rfl) (e := sub64Entry) (by kernel_rfl)]
    simp only [List.map_cons, List.map_nil, V.den, V.dens]
    rw [run_sub x y c (bleT.1 h)]
    rfl
  · simp at h
def p65 : Orc := ext 65 g65 p67
theorem p65_ok : OrcOK Tryd.prog p65 := ext_ok p67_ok g65_ok
/- math/bits.Mul64 -/
def mul64 (x : Int) (y : Int) : (Int × Int) := ((addI .u64 (addI .u64 (mulI .u64 (shrI .u64 x 32) (shrI .u64 y 32)) (shrI .u64 (addI .u64 (mulI .u64 (shrI .u64 x 32) (andI .u64 y 4294967295)) (shrI .u64 (mulI .u64 (andI .u64 x 4294967295) (andI .u64 y 4294967295)) 32)) 32)) (shrI .u64 (addI .u64 (andI .u64 (addI .u64 (mulI .u64 (shrI .u64 x 32) (andI .u64 y 4294967295)) (shrI .u64 (mulI .u64 (andI .u64 x 4294967295) (andI .u64 y 4294967295)) 32)) 4294967295) (mulI .u64 (andI .u64 x 4294967295) (shrI .u64 y 32))) 32)), (mulI .u64 x y))
theorem mul64_t (x : Int) (y : Int) : awp Tryd.prog p65 noG 300 (body Tryd.f66) (ends Tryd.prog Tryd.f66 fun v _ => okV (V.tup [(V.int .u64 (mul64 x y).1), (V.int .u64 (mul64 x y).2)]) v) ⟨[(V.int .u64 x), (V.int .u64 y)] ++ List.replicate 49 V.un, []⟩ = ((V.tup [(V.int .u64 (mul64 x y).1), (V.int .u64 (mul64 x y).2)]).den z0 = (V.tup [(V.int .u64 (mul64 x y).1), (V.int .u64 (mul64 x y).2)]).den z0) := by kernel_rfl
theorem mul64_a (x : Int) (y : Int) : awp Tryd.prog p65 noG 300 (body Tryd.f66) (ends Tryd.prog Tryd.f66 fun v _ => okV (V.tup [(V.int .u64 (mul64 x y).1), (V.int .u64 (mul64 x y).2)]) v) ⟨[(V.int .u64 x), (V.int .u64 y)] ++ List.replicate 49 V.un, []⟩ := by rw [mul64_t]
def g66 : List V → Option (Bool × V) := fun | [.int .u64 x, .int .u64 y] => some (true, (V.tup [(V.int .u64 (mul64 x y).1), (V.int .u64 (mul64 x y).2)])) | _ => none
theorem mul64_p (x : Int) (y : Int) : (∀ μ μ', V.den μ' (V.tup [(V.int .u64 (mul64 x y).1), (V.int .u64 (mul64 x y).2)]) = V.den μ (V.tup [(V.int .u64 (mul64 x y).1), (V.int .u64 (mul64 x y).2)])) ∧ ∀ μ w, PureAt Tryd.prog 66 (([(V.int .u64 x), (V.int .u64 y)] : List V).map (V.den μ)).toArray (V.den μ (V.tup [(V.int .u64 (mul64 x y).1), (V.int .u64 (mul64 x y).2)])) w :=
  pure_ok (F := p65) (N := 300) (fn := Tryd.f66) (args := [(V.int .u64 x), (V.int .u64 y)]) (r := (V.tup [(V.int .u64 (mul64 x y).1), (V.int .u64 (mul64 x y).2)])) (n := 49) hM p65_ok (noG_ok _) Tryd.func66 (by kernel_rfl) (by kernel_rfl) (by kernel_rfl) (by kernel_rfl) (mul64_a x y) (by kernel_rfl)
theorem g66_ok (vs : List V) (v : V) (h : g66 vs = some (true, v)) : (∀ μ μ', v.den μ' = v.den μ) ∧ ∀ μ w, PureAt Tryd.prog 66 (vs.map (V.den μ)).toArray (v.den μ) w := by
  unfold g66 at h
  split at h
  · simp only [Option.some.injEq, Prod.mk.injEq, true_and] at h
    subst h
    exact mul64_p _ _
  · simp at h
def p66 : Orc := ext 66 g66 p65
theorem p66_ok : OrcOK Tryd.prog p66 := ext_ok p65_ok g66_ok

/- bits.width[uint64] -/
def widthF : Int := 64
theorem widthF_t : awp Tryd.prog p66 noG 300 (body Tryd.f69) (ends Tryd.prog Tryd.f69 fun v _ => okV (V.int .i64 widthF) v) ⟨[] ++ List.replicate 12 V.un, []⟩ = ((V.int .i64 widthF).den z0 = (V.int .i64 widthF).den z0) := by kernel_rfl
theorem widthF_a : awp Tryd.prog p66 noG 300 (body Tryd.f69) (ends Tryd.prog Tryd.f69 fun v _ => okV (V.int .i64 widthF) v) ⟨[] ++ List.replicate 12 V.un, []⟩ := by rw [widthF_t]
def g69 : List V → Option (Bool × V) := fun | [] => some (true, (V.int .i64 widthF)) | _ => none
theorem widthF_p : (∀ μ μ', V.den μ' (V.int .i64 widthF) = V.den μ (V.int .i64 widthF)) ∧ ∀ μ w, PureAt Tryd.prog 69 (([] : List V).map (V.den μ)).toArray (V.den μ (V.int .i64 widthF)) w :=
  pure_ok (F := p66) (N := 300) (fn := Tryd.f69) (args := []) (r := (V.int .i64 widthF)) (n := 12) hM p66_ok (noG_ok _) Tryd.func69 (by kernel_rfl) (by kernel_rfl) (by kernel_rfl) (by kernel_rfl) (widthF_a) (by kernel_rfl)
theorem g69_ok (vs : List V) (v : V) (h : g69 vs = some (true, v)) : (∀ μ μ', v.den μ' = v.den μ) ∧ ∀ μ w, PureAt Tryd.prog 69 (vs.map (V.den μ)).toArray (v.den μ) w := by
  unfold g69 at h
  split at h
  · simp only [Option.some.injEq, Prod.mk.injEq, true_and] at h
    subst h
    exact widthF_p
  · simp at h
def p69 : Orc := ext 69 g69 p66
theorem p69_ok : OrcOK Tryd.prog p69 := ext_ok p66_ok g69_ok

end Go.Proofs.YtnoehjibponofaaDoor
