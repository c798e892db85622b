/-
  What the laws on joins share. Conditions: none.
-/
import Derived.Test.YtomipglebaaagaaRC
namespace Go.Proofs.Ytomipglebaaagaa
open Go.Ev
theorem maxI_max (a b : Int) : maxI a b = max a b := by unfold maxI; by_cases h : b > a <;> simp [h] <;> omega
theorem mBy {c : Bool} {A B : Prop} (h : c = true) (k : A) : mB c A B := mBt (fun _ => k) (fun e => by rw [h] at e; cases e)
theorem mBn {c : Bool} {A B : Prop} (h : c = false) (k : B) : mB c A B := mBt (fun e => by rw [h] at e; cases e) (fun _ => k)
theorem akT_nn {n : Nat} {r : Int} {l : Nat → Int} {t : Int} (ht : 0 ≤ t) : ∀ k, 0 ≤ akT n r l t k
  | 0 => ht
  | k + 1 => by have := akT_nn (n := n) (r := r) (l := l) ht k; simp only [akT, maxI_max]; cases goodB n r (l (2 * k)) (l (2 * k + 1)) <;> simp <;> omega
theorem akTO_nn {n : Nat} {r : Int} {l : Nat → Int} {k : Nat} : 0 ≤ akTO n r l 0 k := by rw [akTO_eq]; exact akT_nn (Int.le_refl _) k
theorem wi_yes {r g : Int} (h : wiO r g = true) : 1 ≤ r ∧ r ≤ 4096 ∧ 1 ≤ g ∧ g ≤ 16 := by rw [wiO_eq] at h; exact of_decide_eq_true h
theorem beg_yes {s r g : Int} (h : wiO r g = true) (hs : 1 ≤ s) : begO s r g = true := by have := wi_yes h; rw [begO_eq]; exact decide_eq_true ⟨hs, this⟩
theorem add_nat {a b : Nat} (h : a + b ≤ 9223372036854775807) : addI .i64 ((a : Nat) : Int) ((b : Nat) : Int) = (((a + b : Nat)) : Int) := by unfold addI; rw [wrap_i64 _ (by omega)]; omega
/-- Short forms. -/
def rf (s r : Int) (i n c : Nat) (t : Int) : V := .agg [.int .i64 s, .int .i64 r, .sl i 0 n c, .int .i64 t]
def vI (n : Int) : V := .int .i64 n
def vP (i : Nat) : V := .ptr i 0
def vT : V := .bool true
def vS (i n c : Nat) : V := .sl i 0 n c
def vB (n : Nat) (f : Nat → Bool) : V := .bools n f
def gdS (n xN n2 yN : Nat) : Bool := (Nat.ble n xN && Nat.ble n2 yN) && Nat.ble n 1100
noncomputable def gdJ (n xN n2 yN : Nat) (s r sb rb : Int) : Bool := ((Nat.ble n xN && Nat.ble n2 yN) && Nat.ble n 1100) && !(joO s r n sb rb n2)
def gdA (n xN k lN : Nat) : Bool := (Nat.ble n xN && Nat.ble (2 * k) lN) && (Nat.ble n 1100 && Nat.ble k 1100)
theorem gdS_t {n xN n2 yN : Nat} (h1 : n ≤ xN) (h2 : n2 ≤ yN) (h3 : n ≤ 1100) : gdS n xN n2 yN = true := both (both (bleT.2 h1) (bleT.2 h2)) (bleT.2 h3)
theorem gdJ_t {n xN yN : Nat} {s r : Int} (h1 : n ≤ xN) (h2 : n ≤ yN) (h3 : n ≤ 1100) : gdJ n xN n yN s r s r = true := both (both (both (bleT.2 h1) (bleT.2 h2)) (bleT.2 h3)) (by rw [jo_no rfl rfl rfl]; rfl)
theorem gdA_t {n xN k lN : Nat} (h1 : n ≤ xN) (h2 : 2 * k ≤ lN) (h3 : n ≤ 1100) (h4 : k ≤ 1100) : gdA n xN k lN = true := both (both (bleT.2 h1) (bleT.2 h2)) (both (bleT.2 h3) (bleT.2 h4))
theorem jn {r : Int} {n : Nat} {s : Int} : (!(joO s r n s r n)) = true := by rw [jo_no rfl rfl rfl]; rfl
end Go.Proofs.Ytomipglebaaagaa
