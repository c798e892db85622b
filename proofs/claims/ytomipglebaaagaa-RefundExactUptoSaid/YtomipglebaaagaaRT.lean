/-
  What the laws on joins share. Conditions: none.
-/
import Derived.Test.YtomipglebaaagaaRC
namespace Go.Proofs.Ytomipglebaaagaa
open Go.Ev
theorem maxI_max (a b : Int) : maxI a b = max a b := by unfold maxI; by_cases h : b > a <;> simp [h] <;> omega
theorem mBy {c : Bool} {A B : Prop} (h : c = true) (k : A) : mB c A B := mBt (fun _ => k) (fun e => by rw [h] at e; cases e)
theorem mBn {c : Bool} {A B : Prop} (h : c = false) (k : B) : mB c A B := mBt (fun e => by rw [h] at e; cases e) (fun _ => k)
/-- Short forms. -/
def rf (s r : Int) (i n c : Nat) (t : Int) : V := .agg [.int .i64 s, .int .i64 r, .sl i 0 n c, .int .i64 t]
def vI (n : Int) : V := .int .i64 n
def vP (i : Nat) : V := .ptr i 0
def vT : V := .bool true
def vS (i n c : Nat) : V := .sl i 0 n c
def vB (n : Nat) (f : Nat → Bool) : V := .bools n f
def gdS (n xN n2 yN : Nat) : Bool := (Nat.ble n xN && Nat.ble n2 yN) && Nat.ble n 1100
theorem gdS_t {n xN n2 yN : Nat} (h1 : n ≤ xN) (h2 : n2 ≤ yN) (h3 : n ≤ 1100) : gdS n xN n2 yN = true := both (both (bleT.2 h1) (bleT.2 h2)) (bleT.2 h3)
end Go.Proofs.Ytomipglebaaagaa
