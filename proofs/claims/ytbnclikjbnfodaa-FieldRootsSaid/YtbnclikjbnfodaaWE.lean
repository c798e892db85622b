import Derived.Test.YtbnclikjbnfodaaWD
import Derived.Test.YtbnclikjbnfodaaRows
namespace Go.Proofs.Ytbnclikjbnfodaa
open Go.Ev
/- fareboxref05.Mul -/
/-- The sums of the products of digits, in the order of the text. -/
def mulD (a b : Nat → Int) (k : Nat) : Int := (List.range 10).foldl (fun acc i => bif (Nat.ble i k && Nat.ble (k - i) 9) then addI .u64 acc (mulI .u64 (a i) (b (k - i))) else acc) 0
def mulE (a b : Nat → Int) : Nat → Int
  | 0 => mulD a b 0
  | k + 1 => addI .u64 (mulD a b (k + 1)) (shrI .u64 (mulE a b k) 26)
def mulC (a b : Nat → Int) (k : Nat) : Int := bif Nat.beq k 19 then mulE a b k else andI .u64 (mulE a b k) 67108863
def mulLow (a b : Nat → Int) : Nat → Int := fun i => addI .u64 (mulC a b i) (mulI .u64 608 (mulC a b (i + 10)))
def rMul (a b : Nat → Int) : Nat → Int := rLeast (l10 (mulLow a b 0) (mulLow a b 1) (mulLow a b 2) (mulLow a b 3) (mulLow a b 4) (mulLow a b 5) (mulLow a b 6) (mulLow a b 7) (mulLow a b 8) (mulLow a b 9))
theorem rMul_t (a : (Nat → Int)) (b : (Nat → Int)) : awp Try.prog o32 noG 300 (body Try.f44) (ends Try.prog Try.f44 fun v _ => okV (V.ints .u64 10 (rMul a b)) v) ⟨[(V.ints .u64 10 a), (V.ints .u64 10 b)] ++ List.replicate 73 V.un, []⟩ = ((V.ints .u64 10 (rMul a b)).den z0 = (V.ints .u64 10 (rMul a b)).den z0) := by kernel_rfl
theorem rMul_a (a : (Nat → Int)) (b : (Nat → Int)) : awp Try.prog o32 noG 300 (body Try.f44) (ends Try.prog Try.f44 fun v _ => okV (V.ints .u64 10 (rMul a b)) v) ⟨[(V.ints .u64 10 a), (V.ints .u64 10 b)] ++ List.replicate 73 V.un, []⟩ := by rw [rMul_t]
def g44 : List V → Option (Bool × V) := fun | [.ints .u64 10 a, .ints .u64 10 b] => some (true, (V.ints .u64 10 (rMul a b))) | _ => none
theorem rMul_p (a : (Nat → Int)) (b : (Nat → Int)) : (∀ μ μ', V.den μ' (V.ints .u64 10 (rMul a b)) = V.den μ (V.ints .u64 10 (rMul a b))) ∧ ∀ μ w, PureAt Try.prog 44 (([(V.ints .u64 10 a), (V.ints .u64 10 b)] : List V).map (V.den μ)).toArray (V.den μ (V.ints .u64 10 (rMul a b))) w :=
  pure_ok (F := o32) (N := 300) (fn := Try.f44) (args := [(V.ints .u64 10 a), (V.ints .u64 10 b)]) (r := (V.ints .u64 10 (rMul a b))) (n := 73) hM o32_ok (noG_ok _) Try.func44 (by kernel_rfl) (by kernel_rfl) (by kernel_rfl) (by kernel_rfl) (rMul_a a b) (by kernel_rfl)
theorem g44_ok (vs : List V) (v : V) (h : g44 vs = some (true, v)) : (∀ μ μ', v.den μ' = v.den μ) ∧ ∀ μ w, PureAt Try.prog 44 (vs.map (V.den μ)).toArray (v.den μ) w := by
  unfold g44 at h
  split at h
  · simp only [Option.some.injEq, Prod.mk.injEq, true_and] at h
    subst h
    exact rMul_p _ _
  · simp at h
def o44 : Orc := ext 44 g44 o32
theorem o44_ok : OrcOK Try.prog o44 := ext_ok o32_ok g44_ok
end Go.Proofs.Ytbnclikjbnfodaa
