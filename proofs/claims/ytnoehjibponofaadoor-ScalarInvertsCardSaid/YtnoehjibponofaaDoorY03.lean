/-
  A part of the groundwork of this seat's claims: an evaluator over the program, walks, and plain mathematics. Conditions: none.
-/
import Derived.Test.YtnoehjibponofaaDoorY02
/-
  split: a number parted at 2^252. Conditions: none.
-/
namespace Go.Proofs.YtnoehjibponofaaDoor
open Go.Ev
/-- The lower 252 bits of n words. -/
def lowF (n : Nat) (f : Nat → Int) : Nat → Int := fun j => bif Nat.beq j 3 then andI .u64 (bif Nat.blt 3 n then f 3 else 0) 1152921504606846975 else bif Nat.blt j n then f j else 0
/-- The words above. -/
def hiF (n : Nat) (f : Nat → Int) : Nat → Int := fun j => bif Nat.blt (j + 4) n then orI .u64 (shrI .u64 (f (j + 3)) 60) (shlI .u64 (f (j + 4)) 4) else shrI .u64 (f (j + 3)) 60
def splitD (n : Nat) (f : Nat → Int) : Made := ⟨.u64, n - 3, hiF n f, fun id cap => .tup [.ints .u64 4 (lowF n f), .sl id 0 (n - 3) cap]⟩
def splitR (n : Nat) (f : Nat → Int) : V := .tup [.ints .u64 4 (lowF n f), .snil]
theorem split2 (e c : Nat) (f : Nat → Int) : awp Tryd.prog p52 noG 300 (body Tryd.f62) (ends Tryd.prog Tryd.f62 fun v _ => okV (splitR 2 f) v) ⟨[V.sl 0 0 2 c] ++ List.replicate 44 V.un, [V.tup [V.ints .u64 (e + 2) f]]⟩ := by
  have h : awp Tryd.prog p52 noG 300 (body Tryd.f62) (ends Tryd.prog Tryd.f62 fun v _ => okV (splitR 2 f) v) ⟨[V.sl 0 0 2 c] ++ List.replicate 44 V.un, [V.tup [V.ints .u64 (e + 2) f]]⟩ = ((splitR 2 f).den z0 = (splitR 2 f).den z0) := by kernel_rfl
  rw [h]
theorem split3 (e c : Nat) (f : Nat → Int) : awp Tryd.prog p52 noG 300 (body Tryd.f62) (ends Tryd.prog Tryd.f62 fun v _ => okV (splitR 3 f) v) ⟨[V.sl 0 0 3 c] ++ List.replicate 44 V.un, [V.tup [V.ints .u64 (e + 3) f]]⟩ := by
  have h : awp Tryd.prog p52 noG 300 (body Tryd.f62) (ends Tryd.prog Tryd.f62 fun v _ => okV (splitR 3 f) v) ⟨[V.sl 0 0 3 c] ++ List.replicate 44 V.un, [V.tup [V.ints .u64 (e + 3) f]]⟩ = ((splitR 3 f).den z0 = (splitR 3 f).den z0) := by kernel_rfl
  rw [h]
theorem split4 (e c : Nat) (f : Nat → Int) : awp Tryd.prog p52 noG 300 (body Tryd.f62) (ends Tryd.prog Tryd.f62 fun v m => madeK (splitD 4 f) v m) ⟨[V.sl 0 0 4 c] ++ List.replicate 44 V.un, [V.tup [V.ints .u64 (e + 4) f]]⟩ := by
  have h : awp Tryd.prog p52 noG 300 (body Tryd.f62) (ends Tryd.prog Tryd.f62 fun v m => madeK (splitD 4 f) v m) ⟨[V.sl 0 0 4 c] ++ List.replicate 44 V.un, [V.tup [V.ints .u64 (e + 4) f]]⟩ = (∀ (c1 : Nat), (1 ≤ c1) → (madeK (splitD 4 f) (V.tup [(V.ints .u64 4 (up 3 (andI .u64 ((sh 0 f) 3) 1152921504606846975) (sh 0 f))), (V.sl 4 0 1 c1)]) [(V.tup [(V.ints .u64 (e + 4) f)]), (V.ints .u64 4 (up 3 (andI .u64 ((sh 0 f) 3) 1152921504606846975) (sh 0 f))), (V.ints .u64 4 (up 3 (andI .u64 ((sh 0 f) 3) 1152921504606846975) (sh 0 f))), (V.ints .u64 1 (up 0 (shrI .u64 (f 3) 60) (fun _ => 0))), (V.ints .u64 c1 (ap 0 1 (fun _ => 0) (up 0 (shrI .u64 (f 3) 60) (fun _ => 0)) 0))])) := by kernel_rfl
  rw [h]
  intro c1 h0
  refine ⟨4, c1, (ap 0 1 (fun _ => 0) (up 0 (shrI .u64 (f 3) 60) (fun _ => 0)) 0), fun μ => by kernel_rfl, by kernel_rfl, by show 1 ≤ _; omega, fun j hj => ?_⟩
  have hj : j < 1 := hj
  have hj : j = 0 := by omega
  subst hj; show _ = _; kernel_rfl
theorem split5 (e c : Nat) (f : Nat → Int) : awp Tryd.prog p52 noG 300 (body Tryd.f62) (ends Tryd.prog Tryd.f62 fun v m => madeK (splitD 5 f) v m) ⟨[V.sl 0 0 5 c] ++ List.replicate 44 V.un, [V.tup [V.ints .u64 (e + 5) f]]⟩ := by
  have h : awp Tryd.prog p52 noG 300 (body Tryd.f62) (ends Tryd.prog Tryd.f62 fun v m => madeK (splitD 5 f) v m) ⟨[V.sl 0 0 5 c] ++ List.replicate 44 V.un, [V.tup [V.ints .u64 (e + 5) f]]⟩ = (∀ (c1 : Nat), (1 ≤ c1) → (mB (Nat.ble (1 + 1) c1) (gB (Nat.ble (0 + 1 + 1) c1) (madeK (splitD 5 f) (V.tup [(V.ints .u64 4 (up 3 (andI .u64 ((sh 0 f) 3) 1152921504606846975) (sh 0 f))), (V.sl 4 0 (1 + 1) c1)]) [(V.tup [(V.ints .u64 (e + 5) f)]), (V.ints .u64 4 (up 3 (andI .u64 ((sh 0 f) 3) 1152921504606846975) (sh 0 f))), (V.ints .u64 4 (up 3 (andI .u64 ((sh 0 f) 3) 1152921504606846975) (sh 0 f))), (V.ints .u64 1 (up 0 (orI .u64 (shrI .u64 (f 3) 60) (shlI .u64 (f 4) 4)) (fun _ => 0))), (V.ints .u64 c1 (spl (0 + 1) 1 c1 (up 0 (shrI .u64 (f 4) 60) (fun _ => 0)) (ap 0 1 (fun _ => 0) (up 0 (orI .u64 (shrI .u64 (f 3) 60) (shlI .u64 (f 4) 4)) (fun _ => 0)) 0))), (V.ints .u64 1 (up 0 (shrI .u64 (f 4) 60) (fun _ => 0)))])) (gB (Nat.ble (0 + 1) c1 && Nat.ble (1 + 1) 1048576) (∀ (c2 : Nat), (1 + 1 ≤ c2) → (madeK (splitD 5 f) (V.tup [(V.ints .u64 4 (up 3 (andI .u64 ((sh 0 f) 3) 1152921504606846975) (sh 0 f))), (V.sl 6 0 (1 + 1) c2)]) [(V.tup [(V.ints .u64 (e + 5) f)]), (V.ints .u64 4 (up 3 (andI .u64 ((sh 0 f) 3) 1152921504606846975) (sh 0 f))), (V.ints .u64 4 (up 3 (andI .u64 ((sh 0 f) 3) 1152921504606846975) (sh 0 f))), (V.ints .u64 1 (up 0 (orI .u64 (shrI .u64 (f 3) 60) (shlI .u64 (f 4) 4)) (fun _ => 0))), (V.ints .u64 c1 (ap 0 1 (fun _ => 0) (up 0 (orI .u64 (shrI .u64 (f 3) 60) (shlI .u64 (f 4) 4)) (fun _ => 0)) 0)), (V.ints .u64 1 (up 0 (shrI .u64 (f 4) 60) (fun _ => 0))), (V.ints .u64 c2 (ap 1 1 (sh 0 (ap 0 1 (fun _ => 0) (up 0 (orI .u64 (shrI .u64 (f 3) 60) (shlI .u64 (f 4) 4)) (fun _ => 0)) 0)) (up 0 (shrI .u64 (f 4) 60) (fun _ => 0)) 0))]))))) := by kernel_rfl
  rw [h]
  intro c1 h0
  refine mBt (fun h1 => ?_) (fun _ => ?_)
  · have h1 := bleT.1 h1
    refine gm (by first | exact bleT.2 (by omega) | (rw [Bool.and_eq_true]; exact ⟨bleT.2 (by omega), bleT.2 (by omega)⟩)) ?_
    refine ⟨4, c1, (spl (0 + 1) 1 c1 (up 0 (shrI .u64 (f 4) 60) (fun _ => 0)) (ap 0 1 (fun _ => 0) (up 0 (orI .u64 (shrI .u64 (f 3) 60) (shlI .u64 (f 4) 4)) (fun _ => 0)) 0)), fun μ => by kernel_rfl, by kernel_rfl, by show 2 ≤ _; omega, fun j hj => ?_⟩
    have hj : j < 2 := hj
    have hj : j = 0 ∨ j = 1 := by omega
    rcases hj with rfl | rfl <;> (show _ = _; kernel_rfl)
  · refine gm (by first | exact bleT.2 (by omega) | (rw [Bool.and_eq_true]; exact ⟨bleT.2 (by omega), bleT.2 (by omega)⟩)) ?_
    intro c2 h1
    refine ⟨6, c2, (ap 1 1 (sh 0 (ap 0 1 (fun _ => 0) (up 0 (orI .u64 (shrI .u64 (f 3) 60) (shlI .u64 (f 4) 4)) (fun _ => 0)) 0)) (up 0 (shrI .u64 (f 4) 60) (fun _ => 0)) 0), fun μ => by kernel_rfl, by kernel_rfl, by show 2 ≤ _; omega, fun j hj => ?_⟩
    have hj : j < 2 := hj
    have hj : j = 0 ∨ j = 1 := by omega
    rcases hj with rfl | rfl <;> (show _ = _; kernel_rfl)
theorem split6 (e c : Nat) (f : Nat → Int) : awp Tryd.prog p52 noG 300 (body Tryd.f62) (ends Tryd.prog Tryd.f62 fun v m => madeK (splitD 6 f) v m) ⟨[V.sl 0 0 6 c] ++ List.replicate 44 V.un, [V.tup [V.ints .u64 (e + 6) f]]⟩ := by
  have h : awp Tryd.prog p52 noG 300 (body Tryd.f62) (ends Tryd.prog Tryd.f62 fun v m => madeK (splitD 6 f) v m) ⟨[V.sl 0 0 6 c] ++ List.replicate 44 V.un, [V.tup [V.ints .u64 (e + 6) f]]⟩ = (∀ (c1 : Nat), (1 ≤ c1) → (mB (Nat.ble (1 + 1) c1) (gB (Nat.ble (0 + 1 + 1) c1) (mB (Nat.ble ((1 + 1) + 1) c1) (gB (Nat.ble (0 + (1 + 1) + 1) c1) (madeK (splitD 6 f) (V.tup [(V.ints .u64 4 (up 3 (andI .u64 ((sh 0 f) 3) 1152921504606846975) (sh 0 f))), (V.sl 4 0 ((1 + 1) + 1) c1)]) [(V.tup [(V.ints .u64 (e + 6) f)]), (V.ints .u64 4 (up 3 (andI .u64 ((sh 0 f) 3) 1152921504606846975) (sh 0 f))), (V.ints .u64 4 (up 3 (andI .u64 ((sh 0 f) 3) 1152921504606846975) (sh 0 f))), (V.ints .u64 1 (up 0 (orI .u64 (shrI .u64 (f 3) 60) (shlI .u64 (f 4) 4)) (fun _ => 0))), (V.ints .u64 c1 (spl (0 + (1 + 1)) 1 c1 (up 0 (shrI .u64 (f 5) 60) (fun _ => 0)) (spl (0 + 1) 1 c1 (up 0 (orI .u64 (shrI .u64 (f 4) 60) (shlI .u64 (f 5) 4)) (fun _ => 0)) (ap 0 1 (fun _ => 0) (up 0 (orI .u64 (shrI .u64 (f 3) 60) (shlI .u64 (f 4) 4)) (fun _ => 0)) 0)))), (V.ints .u64 1 (up 0 (orI .u64 (shrI .u64 (f 4) 60) (shlI .u64 (f 5) 4)) (fun _ => 0))), (V.ints .u64 1 (up 0 (shrI .u64 (f 5) 60) (fun _ => 0)))])) (gB (Nat.ble (0 + (1 + 1)) c1 && Nat.ble ((1 + 1) + 1) 1048576) (∀ (c3 : Nat), ((1 + 1) + 1 ≤ c3) → (madeK (splitD 6 f) (V.tup [(V.ints .u64 4 (up 3 (andI .u64 ((sh 0 f) 3) 1152921504606846975) (sh 0 f))), (V.sl 7 0 ((1 + 1) + 1) c3)]) [(V.tup [(V.ints .u64 (e + 6) f)]), (V.ints .u64 4 (up 3 (andI .u64 ((sh 0 f) 3) 1152921504606846975) (sh 0 f))), (V.ints .u64 4 (up 3 (andI .u64 ((sh 0 f) 3) 1152921504606846975) (sh 0 f))), (V.ints .u64 1 (up 0 (orI .u64 (shrI .u64 (f 3) 60) (shlI .u64 (f 4) 4)) (fun _ => 0))), (V.ints .u64 c1 (spl (0 + 1) 1 c1 (up 0 (orI .u64 (shrI .u64 (f 4) 60) (shlI .u64 (f 5) 4)) (fun _ => 0)) (ap 0 1 (fun _ => 0) (up 0 (orI .u64 (shrI .u64 (f 3) 60) (shlI .u64 (f 4) 4)) (fun _ => 0)) 0))), (V.ints .u64 1 (up 0 (orI .u64 (shrI .u64 (f 4) 60) (shlI .u64 (f 5) 4)) (fun _ => 0))), (V.ints .u64 1 (up 0 (shrI .u64 (f 5) 60) (fun _ => 0))), (V.ints .u64 c3 (ap (1 + 1) 1 (sh 0 (spl (0 + 1) 1 c1 (up 0 (orI .u64 (shrI .u64 (f 4) 60) (shlI .u64 (f 5) 4)) (fun _ => 0)) (ap 0 1 (fun _ => 0) (up 0 (orI .u64 (shrI .u64 (f 3) 60) (shlI .u64 (f 4) 4)) (fun _ => 0)) 0))) (up 0 (shrI .u64 (f 5) 60) (fun _ => 0)) 0))]))))) (gB (Nat.ble (0 + 1) c1 && Nat.ble (1 + 1) 1048576) (∀ (c2 : Nat), (1 + 1 ≤ c2) → (mB (Nat.ble ((1 + 1) + 1) c2) (gB (Nat.ble (0 + (1 + 1) + 1) c2) (madeK (splitD 6 f) (V.tup [(V.ints .u64 4 (up 3 (andI .u64 ((sh 0 f) 3) 1152921504606846975) (sh 0 f))), (V.sl 6 0 ((1 + 1) + 1) c2)]) [(V.tup [(V.ints .u64 (e + 6) f)]), (V.ints .u64 4 (up 3 (andI .u64 ((sh 0 f) 3) 1152921504606846975) (sh 0 f))), (V.ints .u64 4 (up 3 (andI .u64 ((sh 0 f) 3) 1152921504606846975) (sh 0 f))), (V.ints .u64 1 (up 0 (orI .u64 (shrI .u64 (f 3) 60) (shlI .u64 (f 4) 4)) (fun _ => 0))), (V.ints .u64 c1 (ap 0 1 (fun _ => 0) (up 0 (orI .u64 (shrI .u64 (f 3) 60) (shlI .u64 (f 4) 4)) (fun _ => 0)) 0)), (V.ints .u64 1 (up 0 (orI .u64 (shrI .u64 (f 4) 60) (shlI .u64 (f 5) 4)) (fun _ => 0))), (V.ints .u64 c2 (spl (0 + (1 + 1)) 1 c2 (up 0 (shrI .u64 (f 5) 60) (fun _ => 0)) (ap 1 1 (sh 0 (ap 0 1 (fun _ => 0) (up 0 (orI .u64 (shrI .u64 (f 3) 60) (shlI .u64 (f 4) 4)) (fun _ => 0)) 0)) (up 0 (orI .u64 (shrI .u64 (f 4) 60) (shlI .u64 (f 5) 4)) (fun _ => 0)) 0))), (V.ints .u64 1 (up 0 (shrI .u64 (f 5) 60) (fun _ => 0)))])) (gB (Nat.ble (0 + (1 + 1)) c2 && Nat.ble ((1 + 1) + 1) 1048576) (∀ (c4 : Nat), ((1 + 1) + 1 ≤ c4) → (madeK (splitD 6 f) (V.tup [(V.ints .u64 4 (up 3 (andI .u64 ((sh 0 f) 3) 1152921504606846975) (sh 0 f))), (V.sl 8 0 ((1 + 1) + 1) c4)]) [(V.tup [(V.ints .u64 (e + 6) f)]), (V.ints .u64 4 (up 3 (andI .u64 ((sh 0 f) 3) 1152921504606846975) (sh 0 f))), (V.ints .u64 4 (up 3 (andI .u64 ((sh 0 f) 3) 1152921504606846975) (sh 0 f))), (V.ints .u64 1 (up 0 (orI .u64 (shrI .u64 (f 3) 60) (shlI .u64 (f 4) 4)) (fun _ => 0))), (V.ints .u64 c1 (ap 0 1 (fun _ => 0) (up 0 (orI .u64 (shrI .u64 (f 3) 60) (shlI .u64 (f 4) 4)) (fun _ => 0)) 0)), (V.ints .u64 1 (up 0 (orI .u64 (shrI .u64 (f 4) 60) (shlI .u64 (f 5) 4)) (fun _ => 0))), (V.ints .u64 c2 (ap 1 1 (sh 0 (ap 0 1 (fun _ => 0) (up 0 (orI .u64 (shrI .u64 (f 3) 60) (shlI .u64 (f 4) 4)) (fun _ => 0)) 0)) (up 0 (orI .u64 (shrI .u64 (f 4) 60) (shlI .u64 (f 5) 4)) (fun _ => 0)) 0)), (V.ints .u64 1 (up 0 (shrI .u64 (f 5) 60) (fun _ => 0))), (V.ints .u64 c4 (ap (1 + 1) 1 (sh 0 (ap 1 1 (sh 0 (ap 0 1 (fun _ => 0) (up 0 (orI .u64 (shrI .u64 (f 3) 60) (shlI .u64 (f 4) 4)) (fun _ => 0)) 0)) (up 0 (orI .u64 (shrI .u64 (f 4) 60) (shlI .u64 (f 5) 4)) (fun _ => 0)) 0)) (up 0 (shrI .u64 (f 5) 60) (fun _ => 0)) 0))])))))))) := by kernel_rfl
  rw [h]
  intro c1 h0
  refine mBt (fun h1 => ?_) (fun _ => ?_)
  · have h1 := bleT.1 h1
    refine gm (by first | exact bleT.2 (by omega) | (rw [Bool.and_eq_true]; exact ⟨bleT.2 (by omega), bleT.2 (by omega)⟩)) ?_
    refine mBt (fun h2 => ?_) (fun _ => ?_)
    · have h2 := bleT.1 h2
      refine gm (by first | exact bleT.2 (by omega) | (rw [Bool.and_eq_true]; exact ⟨bleT.2 (by omega), bleT.2 (by omega)⟩)) ?_
      refine ⟨4, c1, (spl (0 + (1 + 1)) 1 c1 (up 0 (shrI .u64 (f 5) 60) (fun _ => 0)) (spl (0 + 1) 1 c1 (up 0 (orI .u64 (shrI .u64 (f 4) 60) (shlI .u64 (f 5) 4)) (fun _ => 0)) (ap 0 1 (fun _ => 0) (up 0 (orI .u64 (shrI .u64 (f 3) 60) (shlI .u64 (f 4) 4)) (fun _ => 0)) 0))), fun μ => by kernel_rfl, by kernel_rfl, by show 3 ≤ _; omega, fun j hj => ?_⟩
      have hj : j < 3 := hj
      have hj : j = 0 ∨ j = 1 ∨ j = 2 := by omega
      rcases hj with rfl | rfl | rfl <;> (show _ = _; kernel_rfl)
    · refine gm (by first | exact bleT.2 (by omega) | (rw [Bool.and_eq_true]; exact ⟨bleT.2 (by omega), bleT.2 (by omega)⟩)) ?_
      intro c3 h2
      refine ⟨7, c3, (ap (1 + 1) 1 (sh 0 (spl (0 + 1) 1 c1 (up 0 (orI .u64 (shrI .u64 (f 4) 60) (shlI .u64 (f 5) 4)) (fun _ => 0)) (ap 0 1 (fun _ => 0) (up 0 (orI .u64 (shrI .u64 (f 3) 60) (shlI .u64 (f 4) 4)) (fun _ => 0)) 0))) (up 0 (shrI .u64 (f 5) 60) (fun _ => 0)) 0), fun μ => by kernel_rfl, by kernel_rfl, by show 3 ≤ _; omega, fun j hj => ?_⟩
      have hj : j < 3 := hj
      have hj : j = 0 ∨ j = 1 ∨ j = 2 := by omega
      rcases hj with rfl | rfl | rfl <;> (show _ = _; kernel_rfl)
  · refine gm (by first | exact bleT.2 (by omega) | (rw [Bool.and_eq_true]; exact ⟨bleT.2 (by omega), bleT.2 (by omega)⟩)) ?_
    intro c2 h1
    refine mBt (fun h2 => ?_) (fun _ => ?_)
    · have h2 := bleT.1 h2
      refine gm (by first | exact bleT.2 (by omega) | (rw [Bool.and_eq_true]; exact ⟨bleT.2 (by omega), bleT.2 (by omega)⟩)) ?_
      refine ⟨6, c2, (spl (0 + (1 + 1)) 1 c2 (up 0 (shrI .u64 (f 5) 60) (fun _ => 0)) (ap 1 1 (sh 0 (ap 0 1 (fun _ => 0) (up 0 (orI .u64 (shrI .u64 (f 3) 60) (shlI .u64 (f 4) 4)) (fun _ => 0)) 0)) (up 0 (orI .u64 (shrI .u64 (f 4) 60) (shlI .u64 (f 5) 4)) (fun _ => 0)) 0)), fun μ => by kernel_rfl, by kernel_rfl, by show 3 ≤ _; omega, fun j hj => ?_⟩
      have hj : j < 3 := hj
      have hj : j = 0 ∨ j = 1 ∨ j = 2 := by omega
      rcases hj with rfl | rfl | rfl <;> (show _ = _; kernel_rfl)
    · refine gm (by first | exact bleT.2 (by omega) | (rw [Bool.and_eq_true]; exact ⟨bleT.2 (by omega), bleT.2 (by omega)⟩)) ?_
      intro c4 h2
      refine ⟨8, c4, (ap (1 + 1) 1 (sh 0 (ap 1 1 (sh 0 (ap 0 1 (fun _ => 0) (up 0 (orI .u64 (shrI .u64 (f 3) 60) (shlI .u64 (f 4) 4)) (fun _ => 0)) 0)) (up 0 (orI .u64 (shrI .u64 (f 4) 60) (shlI .u64 (f 5) 4)) (fun _ => 0)) 0)) (up 0 (shrI .u64 (f 5) 60) (fun _ => 0)) 0), fun μ => by kernel_rfl, by kernel_rfl, by show 3 ≤ _; omega, fun j hj => ?_⟩
      have hj : j < 3 := hj
      have hj : j = 0 ∨ j = 1 ∨ j = 2 := by omega
      rcases hj with rfl | rfl | rfl <;> (show _ = _; kernel_rfl)
theorem split7 (e c : Nat) (f : Nat → Int) : awp Tryd.prog p52 noG 300 (body Tryd.f62) (ends Tryd.prog Tryd.f62 fun v m => madeK (splitD 7 f) v m) ⟨[V.sl 0 0 7 c] ++ List.replicate 44 V.un, [V.tup [V.ints .u64 (e + 7) f]]⟩ := by
  have h : awp Tryd.prog p52 noG 300 (body Tryd.f62) (ends Tryd.prog Tryd.f62 fun v m => madeK (splitD 7 f) v m) ⟨[V.sl 0 0 7 c] ++ List.replicate 44 V.un, [V.tup [V.ints .u64 (e + 7) f]]⟩ = (∀ (c1 : Nat), (1 ≤ c1) → (mB (Nat.ble (1 + 1) c1) (gB (Nat.ble (0 + 1 + 1) c1) (mB (Nat.ble ((1 + 1) + 1) c1) (gB (Nat.ble (0 + (1 + 1) + 1) c1) (mB (Nat.ble (((1 + 1) + 1) + 1) c1) (gB (Nat.ble (0 + ((1 + 1) + 1) + 1) c1) (madeK (splitD 7 f) (V.tup [(V.ints .u64 4 (up 3 (andI .u64 ((sh 0 f) 3) 1152921504606846975) (sh 0 f))), (V.sl 4 0 (((1 + 1) + 1) + 1) c1)]) [(V.tup [(V.ints .u64 (e + 7) f)]), (V.ints .u64 4 (up 3 (andI .u64 ((sh 0 f) 3) 1152921504606846975) (sh 0 f))), (V.ints .u64 4 (up 3 (andI .u64 ((sh 0 f) 3) 1152921504606846975) (sh 0 f))), (V.ints .u64 1 (up 0 (orI .u64 (shrI .u64 (f 3) 60) (shlI .u64 (f 4) 4)) (fun _ => 0))), (V.ints .u64 c1 (spl (0 + ((1 + 1) + 1)) 1 c1 (up 0 (shrI .u64 (f 6) 60) (fun _ => 0)) (spl (0 + (1 + 1)) 1 c1 (up 0 (orI .u64 (shrI .u64 (f 5) 60) (shlI .u64 (f 6) 4)) (fun _ => 0)) (spl (0 + 1) 1 c1 (up 0 (orI .u64 (shrI .u64 (f 4) 60) (shlI .u64 (f 5) 4)) (fun _ => 0)) (ap 0 1 (fun _ => 0) (up 0 (orI .u64 (shrI .u64 (f 3) 60) (shlI .u64 (f 4) 4)) (fun _ => 0)) 0))))), (V.ints .u64 1 (up 0 (orI .u64 (shrI .u64 (f 4) 60) (shlI .u64 (f 5) 4)) (fun _ => 0))), (V.ints .u64 1 (up 0 (orI .u64 (shrI .u64 (f 5) 60) (shlI .u64 (f 6) 4)) (fun _ => 0))), (V.ints .u64 1 (up 0 (shrI .u64 (f 6) 60) (fun _ => 0)))])) (gB (Nat.ble (0 + ((1 + 1) + 1)) c1 && Nat.ble (((1 + 1) + 1) + 1) 1048576) (∀ (c4 : Nat), (((1 + 1) + 1) + 1 ≤ c4) → (madeK (splitD 7 f) (V.tup [(V.ints .u64 4 (up 3 (andI .u64 ((sh 0 f) 3) 1152921504606846975) (sh 0 f))), (V.sl 8 0 (((1 + 1) + 1) + 1) c4)]) [(V.tup [(V.ints .u64 (e + 7) f)]), (V.ints .u64 4 (up 3 (andI .u64 ((sh 0 f) 3) 1152921504606846975) (sh 0 f))), (V.ints .u64 4 (up 3 (andI .u64 ((sh 0 f) 3) 1152921504606846975) (sh 0 f))), (V.ints .u64 1 (up 0 (orI .u64 (shrI .u64 (f 3) 60) (shlI .u64 (f 4) 4)) (fun _ => 0))), (V.ints .u64 c1 (spl (0 + (1 + 1)) 1 c1 (up 0 (orI .u64 (shrI .u64 (f 5) 60) (shlI .u64 (f 6) 4)) (fun _ => 0)) (spl (0 + 1) 1 c1 (up 0 (orI .u64 (shrI .u64 (f 4) 60) (shlI .u64 (f 5) 4)) (fun _ => 0)) (ap 0 1 (fun _ => 0) (up 0 (orI .u64 (shrI .u64 (f 3) 60) (shlI .u64 (f 4) 4)) (fun _ => 0)) 0)))), (V.ints .u64 1 (up 0 (orI .u64 (shrI .u64 (f 4) 60) (shlI .u64 (f 5) 4)) (fun _ => 0))), (V.ints .u64 1 (up 0 (orI .u64 (shrI .u64 (f 5) 60) (shlI .u64 (f 6) 4)) (fun _ => 0))), (V.ints .u64 1 (up 0 (shrI .u64 (f 6) 60) (fun _ => 0))), (V.ints .u64 c4 (ap ((1 + 1) + 1) 1 (sh 0 (spl (0 + (1 + 1)) 1 c1 (up 0 (orI .u64 (shrI .u64 (f 5) 60) (shlI .u64 (f 6) 4)) (fun _ => 0)) (spl (0 + 1) 1 c1 (up 0 (orI .u64 (shrI .u64 (f 4) 60) (shlI .u64 (f 5) 4)) (fun _ => 0)) (ap 0 1 (fun _ => 0) (up 0 (orI .u64 (shrI .u64 (f 3) 60) (shlI .u64 (f 4) 4)) (fun _ => 0)) 0)))) (up 0 (shrI .u64 (f 6) 60) (fun _ => 0)) 0))]))))) (gB (Nat.ble (0 + (1 + 1)) c1 && Nat.ble ((1 + 1) + 1) 1048576) (∀ (c3 : Nat), ((1 + 1) + 1 ≤ c3) → (mB (Nat.ble (((1 + 1) + 1) + 1) c3) (gB (Nat.ble (0 + ((1 + 1) + 1) + 1) c3) (madeK (splitD 7 f) (V.tup [(V.ints .u64 4 (up 3 (andI .u64 ((sh 0 f) 3) 1152921504606846975) (sh 0 f))), (V.sl 7 0 (((1 + 1) + 1) + 1) c3)]) [(V.tup [(V.ints .u64 (e + 7) f)]), (V.ints .u64 4 (up 3 (andI .u64 ((sh 0 f) 3) 1152921504606846975) (sh 0 f))), (V.ints .u64 4 (up 3 (andI .u64 ((sh 0 f) 3) 1152921504606846975) (sh 0 f))), (V.ints .u64 1 (up 0 (orI .u64 (shrI .u64 (f 3) 60) (shlI .u64 (f 4) 4)) (fun _ => 0))), (V.ints .u64 c1 (spl (0 + 1) 1 c1 (up 0 (orI .u64 (shrI .u64 (f 4) 60) (shlI .u64 (f 5) 4)) (fun _ => 0)) (ap 0 1 (fun _ => 0) (up 0 (orI .u64 (shrI .u64 (f 3) 60) (shlI .u64 (f 4) 4)) (fun _ => 0)) 0))), (V.ints .u64 1 (up 0 (orI .u64 (shrI .u64 (f 4) 60) (shlI .u64 (f 5) 4)) (fun _ => 0))), (V.ints .u64 1 (up 0 (orI .u64 (shrI .u64 (f 5) 60) (shlI .u64 (f 6) 4)) (fun _ => 0))), (V.ints .u64 c3 (spl (0 + ((1 + 1) + 1)) 1 c3 (up 0 (shrI .u64 (f 6) 60) (fun _ => 0)) (ap (1 + 1) 1 (sh 0 (spl (0 + 1) 1 c1 (up 0 (orI .u64 (shrI .u64 (f 4) 60) (shlI .u64 (f 5) 4)) (fun _ => 0)) (ap 0 1 (fun _ => 0) (up 0 (orI .u64 (shrI .u64 (f 3) 60) (shlI .u64 (f 4) 4)) (fun _ => 0)) 0))) (up 0 (orI .u64 (shrI .u64 (f 5) 60) (shlI .u64 (f 6) 4)) (fun _ => 0)) 0))), (V.ints .u64 1 (up 0 (shrI .u64 (f 6) 60) (fun _ => 0)))])) (gB (Nat.ble (0 + ((1 + 1) + 1)) c3 && Nat.ble (((1 + 1) + 1) + 1) 1048576) (∀ (c5 : Nat), (((1 + 1) + 1) + 1 ≤ c5) → (madeK (splitD 7 f) (V.tup [(V.ints .u64 4 (up 3 (andI .u64 ((sh 0 f) 3) 1152921504606846975) (sh 0 f))), (V.sl 9 0 (((1 + 1) + 1) + 1) c5)]) [(V.tup [(V.ints .u64 (e + 7) f)]), (V.ints .u64 4 (up 3 (andI .u64 ((sh 0 f) 3) 1152921504606846975) (sh 0 f))), (V.ints .u64 4 (up 3 (andI .u64 ((sh 0 f) 3) 1152921504606846975) (sh 0 f))), (V.ints .u64 1 (up 0 (orI .u64 (shrI .u64 (f 3) 60) (shlI .u64 (f 4) 4)) (fun _ => 0))), (V.ints .u64 c1 (spl (0 + 1) 1 c1 (up 0 (orI .u64 (shrI .u64 (f 4) 60) (shlI .u64 (f 5) 4)) (fun _ => 0)) (ap 0 1 (fun _ => 0) (up 0 (orI .u64 (shrI .u64 (f 3) 60) (shlI .u64 (f 4) 4)) (fun _ => 0)) 0))), (V.ints .u64 1 (up 0 (orI .u64 (shrI .u64 (f 4) 60) (shlI .u64 (f 5) 4)) (fun _ => 0))), (V.ints .u64 1 (up 0 (orI .u64 (shrI .u64 (f 5) 60) (shlI .u64 (f 6) 4)) (fun _ => 0))), (V.ints .u64 c3 (ap (1 + 1) 1 (sh 0 (spl (0 + 1) 1 c1 (up 0 (orI .u64 (shrI .u64 (f 4) 60) (shlI .u64 (f 5) 4)) (fun _ => 0)) (ap 0 1 (fun _ => 0) (up 0 (orI .u64 (shrI .u64 (f 3) 60) (shlI .u64 (f 4) 4)) (fun _ => 0)) 0))) (up 0 (orI .u64 (shrI .u64 (f 5) 60) (shlI .u64 (f 6) 4)) (fun _ => 0)) 0)), (V.ints .u64 1 (up 0 (shrI .u64 (f 6) 60) (fun _ => 0))), (V.ints .u64 c5 (ap ((1 + 1) + 1) 1 (sh 0 (ap (1 + 1) 1 (sh 0 (spl (0 + 1) 1 c1 (up 0 (orI .u64 (shrI .u64 (f 4) 60) (shlI .u64 (f 5) 4)) (fun _ => 0)) (ap 0 1 (fun _ => 0) (up 0 (orI .u64 (shrI .u64 (f 3) 60) (shlI .u64 (f 4) 4)) (fun _ => 0)) 0))) (up 0 (orI .u64 (shrI .u64 (f 5) 60) (shlI .u64 (f 6) 4)) (fun _ => 0)) 0)) (up 0 (shrI .u64 (f 6) 60) (fun _ => 0)) 0))])))))))) (gB (Nat.ble (0 + 1) c1 && Nat.ble (1 + 1) 1048576) (∀ (c2 : Nat), (1 + 1 ≤ c2) → (mB (Nat.ble ((1 + 1) + 1) c2) (gB (Nat.ble (0 + (1 + 1) + 1) c2) (mB (Nat.ble (((1 + 1) + 1) + 1) c2) (gB (Nat.ble (0 + ((1 + 1) + 1) + 1) c2) (madeK (splitD 7 f) (V.tup [(V.ints .u64 4 (up 3 (andI .u64 ((sh 0 f) 3) 1152921504606846975) (sh 0 f))), (V.sl 6 0 (((1 + 1) + 1) + 1) c2)]) [(V.tup [(V.ints .u64 (e + 7) f)]), (V.ints .u64 4 (up 3 (andI .u64 ((sh 0 f) 3) 1152921504606846975) (sh 0 f))), (V.ints .u64 4 (up 3 (andI .u64 ((sh 0 f) 3) 1152921504606846975) (sh 0 f))), (V.ints .u64 1 (up 0 (orI .u64 (shrI .u64 (f 3) 60) (shlI .u64 (f 4) 4)) (fun _ => 0))), (V.ints .u64 c1 (ap 0 1 (fun _ => 0) (up 0 (orI .u64 (shrI .u64 (f 3) 60) (shlI .u64 (f 4) 4)) (fun _ => 0)) 0)), (V.ints .u64 1 (up 0 (orI .u64 (shrI .u64 (f 4) 60) (shlI .u64 (f 5) 4)) (fun _ => 0))), (V.ints .u64 c2 (spl (0 + ((1 + 1) + 1)) 1 c2 (up 0 (shrI .u64 (f 6) 60) (fun _ => 0)) (spl (0 + (1 + 1)) 1 c2 (up 0 (orI .u64 (shrI .u64 (f 5) 60) (shlI .u64 (f 6) 4)) (fun _ => 0)) (ap 1 1 (sh 0 (ap 0 1 (fun _ => 0) (up 0 (orI .u64 (shrI .u64 (f 3) 60) (shlI .u64 (f 4) 4)) (fun _ => 0)) 0)) (up 0 (orI .u64 (shrI .u64 (f 4) 60) (shlI .u64 (f 5) 4)) (fun _ => 0)) 0)))), (V.ints .u64 1 (up 0 (orI .u64 (shrI .u64 (f 5) 60) (shlI .u64 (f 6) 4)) (fun _ => 0))), (V.ints .u64 1 (up 0 (shrI .u64 (f 6) 60) (fun _ => 0)))])) (gB (Nat.ble (0 + ((1 + 1) + 1)) c2 && Nat.ble (((1 + 1) + 1) + 1) 1048576) (∀ (c7 : Nat), (((1 + 1) + 1) + 1 ≤ c7) → (madeK (splitD 7 f) (V.tup [(V.ints .u64 4 (up 3 (andI .u64 ((sh 0 f) 3) 1152921504606846975) (sh 0 f))), (V.sl 9 0 (((1 + 1) + 1) + 1) c7)]) [(V.tup [(V.ints .u64 (e + 7) f)]), (V.ints .u64 4 (up 3 (andI .u64 ((sh 0 f) 3) 1152921504606846975) (sh 0 f))), (V.ints .u64 4 (up 3 (andI .u64 ((sh 0 f) 3) 1152921504606846975) (sh 0 f))), (V.ints .u64 1 (up 0 (orI .u64 (shrI .u64 (f 3) 60) (shlI .u64 (f 4) 4)) (fun _ => 0))), (V.ints .u64 c1 (ap 0 1 (fun _ => 0) (up 0 (orI .u64 (shrI .u64 (f 3) 60) (shlI .u64 (f 4) 4)) (fun _ => 0)) 0)), (V.ints .u64 1 (up 0 (orI .u64 (shrI .u64 (f 4) 60) (shlI .u64 (f 5) 4)) (fun _ => 0))), (V.ints .u64 c2 (spl (0 + (1 + 1)) 1 c2 (up 0 (orI .u64 (shrI .u64 (f 5) 60) (shlI .u64 (f 6) 4)) (fun _ => 0)) (ap 1 1 (sh 0 (ap 0 1 (fun _ => 0) (up 0 (orI .u64 (shrI .u64 (f 3) 60) (shlI .u64 (f 4) 4)) (fun _ => 0)) 0)) (up 0 (orI .u64 (shrI .u64 (f 4) 60) (shlI .u64 (f 5) 4)) (fun _ => 0)) 0))), (V.ints .u64 1 (up 0 (orI .u64 (shrI .u64 (f 5) 60) (shlI .u64 (f 6) 4)) (fun _ => 0))), (V.ints .u64 1 (up 0 (shrI .u64 (f 6) 60) (fun _ => 0))), (V.ints .u64 c7 (ap ((1 + 1) + 1) 1 (sh 0 (spl (0 + (1 + 1)) 1 c2 (up 0 (orI .u64 (shrI .u64 (f 5) 60) (shlI .u64 (f 6) 4)) (fun _ => 0)) (ap 1 1 (sh 0 (ap 0 1 (fun _ => 0) (up 0 (orI .u64 (shrI .u64 (f 3) 60) (shlI .u64 (f 4) 4)) (fun _ => 0)) 0)) (up 0 (orI .u64 (shrI .u64 (f 4) 60) (shlI .u64 (f 5) 4)) (fun _ => 0)) 0))) (up 0 (shrI .u64 (f 6) 60) (fun _ => 0)) 0))]))))) (gB (Nat.ble (0 + (1 + 1)) c2 && Nat.ble ((1 + 1) + 1) 1048576) (∀ (c6 : Nat), ((1 + 1) + 1 ≤ c6) → (mB (Nat.ble (((1 + 1) + 1) + 1) c6) (gB (Nat.ble (0 + ((1 + 1) + 1) + 1) c6) (madeK (splitD 7 f) (V.tup [(V.ints .u64 4 (up 3 (andI .u64 ((sh 0 f) 3) 1152921504606846975) (sh 0 f))), (V.sl 8 0 (((1 + 1) + 1) + 1) c6)]) [(V.tup [(V.ints .u64 (e + 7) f)]), (V.ints .u64 4 (up 3 (andI .u64 ((sh 0 f) 3) 1152921504606846975) (sh 0 f))), (V.ints .u64 4 (up 3 (andI .u64 ((sh 0 f) 3) 1152921504606846975) (sh 0 f))), (V.ints .u64 1 (up 0 (orI .u64 (shrI .u64 (f 3) 60) (shlI .u64 (f 4) 4)) (fun _ => 0))), (V.ints .u64 c1 (ap 0 1 (fun _ => 0) (up 0 (orI .u64 (shrI .u64 (f 3) 60) (shlI .u64 (f 4) 4)) (fun _ => 0)) 0)), (V.ints .u64 1 (up 0 (orI .u64 (shrI .u64 (f 4) 60) (shlI .u64 (f 5) 4)) (fun _ => 0))), (V.ints .u64 c2 (ap 1 1 (sh 0 (ap 0 1 (fun _ => 0) (up 0 (orI .u64 (shrI .u64 (f 3) 60) (shlI .u64 (f 4) 4)) (fun _ => 0)) 0)) (up 0 (orI .u64 (shrI .u64 (f 4) 60) (shlI .u64 (f 5) 4)) (fun _ => 0)) 0)), (V.ints .u64 1 (up 0 (orI .u64 (shrI .u64 (f 5) 60) (shlI .u64 (f 6) 4)) (fun _ => 0))), (V.ints .u64 c6 (spl (0 + ((1 + 1) + 1)) 1 c6 (up 0 (shrI .u64 (f 6) 60) (fun _ => 0)) (ap (1 + 1) 1 (sh 0 (ap 1 1 (sh 0 (ap 0 1 (fun _ => 0) (up 0 (orI .u64 (shrI .u64 (f 3) 60) (shlI .u64 (f 4) 4)) (fun _ => 0)) 0)) (up 0 (orI .u64 (shrI .u64 (f 4) 60) (shlI .u64 (f 5) 4)) (fun _ => 0)) 0)) (up 0 (orI .u64 (shrI .u64 (f 5) 60) (shlI .u64 (f 6) 4)) (fun _ => 0)) 0))), (V.ints .u64 1 (up 0 (shrI .u64 (f 6) 60) (fun _ => 0)))])) (gB (Nat.ble (0 + ((1 + 1) + 1)) c6 && Nat.ble (((1 + 1) + 1) + 1) 1048576) (∀ (c8 : Nat), (((1 + 1) + 1) + 1 ≤ c8) → (madeK (splitD 7 f) (V.tup [(V.ints .u64 4 (up 3 (andI .u64 ((sh 0 f) 3) 1152921504606846975) (sh 0 f))), (V.sl 10 0 (((1 + 1) + 1) + 1) c8)]) [(V.tup [(V.ints .u64 (e + 7) f)]), (V.ints .u64 4 (up 3 (andI .u64 ((sh 0 f) 3) 1152921504606846975) (sh 0 f))), (V.ints .u64 4 (up 3 (andI .u64 ((sh 0 f) 3) 1152921504606846975) (sh 0 f))), (V.ints .u64 1 (up 0 (orI .u64 (shrI .u64 (f 3) 60) (shlI .u64 (f 4) 4)) (fun _ => 0))), (V.ints .u64 c1 (ap 0 1 (fun _ => 0) (up 0 (orI .u64 (shrI .u64 (f 3) 60) (shlI .u64 (f 4) 4)) (fun _ => 0)) 0)), (V.ints .u64 1 (up 0 (orI .u64 (shrI .u64 (f 4) 60) (shlI .u64 (f 5) 4)) (fun _ => 0))), (V.ints .u64 c2 (ap 1 1 (sh 0 (ap 0 1 (fun _ => 0) (up 0 (orI .u64 (shrI .u64 (f 3) 60) (shlI .u64 (f 4) 4)) (fun _ => 0)) 0)) (up 0 (orI .u64 (shrI .u64 (f 4) 60) (shlI .u64 (f 5) 4)) (fun _ => 0)) 0)), (V.ints .u64 1 (up 0 (orI .u64 (shrI .u64 (f 5) 60) (shlI .u64 (f 6) 4)) (fun _ => 0))), (V.ints .u64 c6 (ap (1 + 1) 1 (sh 0 (ap 1 1 (sh 0 (ap 0 1 (fun _ => 0) (up 0 (orI .u64 (shrI .u64 (f 3) 60) (shlI .u64 (f 4) 4)) (fun _ => 0)) 0)) (up 0 (orI .u64 (shrI .u64 (f 4) 60) (shlI .u64 (f 5) 4)) (fun _ => 0)) 0)) (up 0 (orI .u64 (shrI .u64 (f 5) 60) (shlI .u64 (f 6) 4)) (fun _ => 0)) 0)), (V.ints .u64 1 (up 0 (shrI .u64 (f 6) 60) (fun _ => 0))), (V.ints .u64 c8 (ap ((1 + 1) + 1) 1 (sh 0 (ap (1 + 1) 1 (sh 0 (ap 1 1 (sh 0 (ap 0 1 (fun _ => 0) (up 0 (orI .u64 (shrI .u64 (f 3) 60) (shlI .u64 (f 4) 4)) (fun _ => 0)) 0)) (up 0 (orI .u64 (shrI .u64 (f 4) 60) (shlI .u64 (f 5) 4)) (fun _ => 0)) 0)) (up 0 (orI .u64 (shrI .u64 (f 5) 60) (shlI .u64 (f 6) 4)) (fun _ => 0)) 0)) (up 0 (shrI .u64 (f 6) 60) (fun _ => 0)) 0))]))))))))))) := by kernel_rfl
  rw [h]
  intro c1 h0
  refine mBt (fun h1 => ?_) (fun _ => ?_)
  · have h1 := bleT.1 h1
    refine gm (by first | exact bleT.2 (by omega) | (rw [Bool.and_eq_true]; exact ⟨bleT.2 (by omega), bleT.2 (by omega)⟩)) ?_
    refine mBt (fun h2 => ?_) (fun _ => ?_)
    · have h2 := bleT.1 h2
      refine gm (by first | exact bleT.2 (by omega) | (rw [Bool.and_eq_true]; exact ⟨bleT.2 (by omega), bleT.2 (by omega)⟩)) ?_
      refine mBt (fun h3 => ?_) (fun _ => ?_)
      · have h3 := bleT.1 h3
        refine gm (by first | exact bleT.2 (by omega) | (rw [Bool.and_eq_true]; exact ⟨bleT.2 (by omega), bleT.2 (by omega)⟩)) ?_
        refine ⟨4, c1, (spl (0 + ((1 + 1) + 1)) 1 c1 (up 0 (shrI .u64 (f 6) 60) (fun _ => 0)) (spl (0 + (1 + 1)) 1 c1 (up 0 (orI .u64 (shrI .u64 (f 5) 60) (shlI .u64 (f 6) 4)) (fun _ => 0)) (spl (0 + 1) 1 c1 (up 0 (orI .u64 (shrI .u64 (f 4) 60) (shlI .u64 (f 5) 4)) (fun _ => 0)) (ap 0 1 (fun _ => 0) (up 0 (orI .u64 (shrI .u64 (f 3) 60) (shlI .u64 (f 4) 4)) (fun _ => 0)) 0)))), fun μ => by kernel_rfl, by kernel_rfl, by show 4 ≤ _; omega, fun j hj => ?_⟩
        have hj : j < 4 := hj
        have hj : j = 0 ∨ j = 1 ∨ j = 2 ∨ j = 3 := by omega
        rcases hj with rfl | rfl | rfl | rfl <;> (show _ = _; kernel_rfl)
      · refine gm (by first | exact bleT.2 (by omega) | (rw [Bool.and_eq_true]; exact ⟨bleT.2 (by omega), bleT.2 (by omega)⟩)) ?_
        intro c4 h3
        refine ⟨8, c4, (ap ((1 + 1) + 1) 1 (sh 0 (spl (0 + (1 + 1)) 1 c1 (up 0 (orI .u64 (shrI .u64 (f 5) 60) (shlI .u64 (f 6) 4)) (fun _ => 0)) (spl (0 + 1) 1 c1 (up 0 (orI .u64 (shrI .u64 (f 4) 60) (shlI .u64 (f 5) 4)) (fun _ => 0)) (ap 0 1 (fun _ => 0) (up 0 (orI .u64 (shrI .u64 (f 3) 60) (shlI .u64 (f 4) 4)) (fun _ => 0)) 0)))) (up 0 (shrI .u64 (f 6) 60) (fun _ => 0)) 0), fun μ => by kernel_rfl, by kernel_rfl, by show 4 ≤ _; omega, fun j hj => ?_⟩
        have hj : j < 4 := hj
        have hj : j = 0 ∨ j = 1 ∨ j = 2 ∨ j = 3 := by omega
        rcases hj with rfl | rfl | rfl | rfl <;> (show _ = _; kernel_rfl)
    · refine gm (by first | exact bleT.2 (by omega) | (rw [Bool.and_eq_true]; exact ⟨bleT.2 (by omega), bleT.2 (by omega)⟩)) ?_
      intro c3 h2
      refine mBt (fun h3 => ?_) (fun _ => ?_)
      · have h3 := bleT.1 h3
        refine gm (by first | exact bleT.2 (by omega) | (rw [Bool.and_eq_true]; exact ⟨bleT.2 (by omega), bleT.2 (by omega)⟩)) ?_
        refine ⟨7, c3, (spl (0 + ((1 + 1) + 1)) 1 c3 (up 0 (shrI .u64 (f 6) 60) (fun _ => 0)) (ap (1 + 1) 1 (sh 0 (spl (0 + 1) 1 c1 (up 0 (orI .u64 (shrI .u64 (f 4) 60) (shlI .u64 (f 5) 4)) (fun _ => 0)) (ap 0 1 (fun _ => 0) (up 0 (orI .u64 (shrI .u64 (f 3) 60) (shlI .u64 (f 4) 4)) (fun _ => 0)) 0))) (up 0 (orI .u64 (shrI .u64 (f 5) 60) (shlI .u64 (f 6) 4)) (fun _ => 0)) 0)), fun μ => by kernel_rfl, by kernel_rfl, by show 4 ≤ _; omega, fun j hj => ?_⟩
        have hj : j < 4 := hj
        have hj : j = 0 ∨ j = 1 ∨ j = 2 ∨ j = 3 := by omega
        rcases hj with rfl | rfl | rfl | rfl <;> (show _ = _; kernel_rfl)
      · refine gm (by first | exact bleT.2 (by omega) | (rw [Bool.and_eq_true]; exact ⟨bleT.2 (by omega), bleT.2 (by omega)⟩)) ?_
        intro c5 h3
        refine ⟨9, c5, (ap ((1 + 1) + 1) 1 (sh 0 (ap (1 + 1) 1 (sh 0 (spl (0 + 1) 1 c1 (up 0 (orI .u64 (shrI .u64 (f 4) 60) (shlI .u64 (f 5) 4)) (fun _ => 0)) (ap 0 1 (fun _ => 0) (up 0 (orI .u64 (shrI .u64 (f 3) 60) (shlI .u64 (f 4) 4)) (fun _ => 0)) 0))) (up 0 (orI .u64 (shrI .u64 (f 5) 60) (shlI .u64 (f 6) 4)) (fun _ => 0)) 0)) (up 0 (shrI .u64 (f 6) 60) (fun _ => 0)) 0), fun μ => by kernel_rfl, by kernel_rfl, by show 4 ≤ _; omega, fun j hj => ?_⟩
        have hj : j < 4 := hj
        have hj : j = 0 ∨ j = 1 ∨ j = 2 ∨ j = 3 := by omega
        rcases hj with rfl | rfl | rfl | rfl <;> (show _ = _; kernel_rfl)
  · refine gm (by first | exact bleT.2 (by omega) | (rw [Bool.and_eq_true]; exact ⟨bleT.2 (by omega), bleT.2 (by omega)⟩)) ?_
    intro c2 h1
    refine mBt (fun h2 => ?_) (fun _ => ?_)
    · have h2 := bleT.1 h2
      refine gm (by first | exact bleT.2 (by omega) | (rw [Bool.and_eq_true]; exact ⟨bleT.2 (by omega), bleT.2 (by omega)⟩)) ?_
      refine mBt (fun h3 => ?_) (fun _ => ?_)
      · have h3 := bleT.1 h3
        refine gm (by first | exact bleT.2 (by omega) | (rw [Bool.and_eq_true]; exact ⟨bleT.2 (by omega), bleT.2 (by omega)⟩)) ?_
        refine ⟨6, c2, (spl (0 + ((1 + 1) + 1)) 1 c2 (up 0 (shrI .u64 (f 6) 60) (fun _ => 0)) (spl (0 + (1 + 1)) 1 c2 (up 0 (orI .u64 (shrI .u64 (f 5) 60) (shlI .u64 (f 6) 4)) (fun _ => 0)) (ap 1 1 (sh 0 (ap 0 1 (fun _ => 0) (up 0 (orI .u64 (shrI .u64 (f 3) 60) (shlI .u64 (f 4) 4)) (fun _ => 0)) 0)) (up 0 (orI .u64 (shrI .u64 (f 4) 60) (shlI .u64 (f 5) 4)) (fun _ => 0)) 0))), fun μ => by kernel_rfl, by kernel_rfl, by show 4 ≤ _; omega, fun j hj => ?_⟩
        have hj : j < 4 := hj
        have hj : j = 0 ∨ j = 1 ∨ j = 2 ∨ j = 3 := by omega
        rcases hj with rfl | rfl | rfl | rfl <;> (show _ = _; kernel_rfl)
      · refine gm (by first | exact bleT.2 (by omega) | (rw [Bool.and_eq_true]; exact ⟨bleT.2 (by omega), bleT.2 (by omega)⟩)) ?_
        intro c7 h3
        refine ⟨9, c7, (ap ((1 + 1) + 1) 1 (sh 0 (spl (0 + (1 + 1)) 1 c2 (up 0 (orI .u64 (shrI .u64 (f 5) 60) (shlI .u64 (f 6) 4)) (fun _ => 0)) (ap 1 1 (sh 0 (ap 0 1 (fun _ => 0) (up 0 (orI .u64 (shrI .u64 (f 3) 60) (shlI .u64 (f 4) 4)) (fun _ => 0)) 0)) (up 0 (orI .u64 (shrI .u64 (f 4) 60) (shlI .u64 (f 5) 4)) (fun _ => 0)) 0))) (up 0 (shrI .u64 (f 6) 60) (fun _ => 0)) 0), fun μ => by kernel_rfl, by kernel_rfl, by show 4 ≤ _; omega, fun j hj => ?_⟩
        have hj : j < 4 := hj
        have hj : j = 0 ∨ j = 1 ∨ j = 2 ∨ j = 3 := by omega
        rcases hj with rfl | rfl | rfl | rfl <;> (show _ = _; kernel_rfl)
    · refine gm (by first | exact bleT.2 (by omega) | (rw [Bool.and_eq_true]; exact ⟨bleT.2 (by omega), bleT.2 (by omega)⟩)) ?_
      intro c6 h2
      refine mBt (fun h3 => ?_) (fun _ => ?_)
      · have h3 := bleT.1 h3
        refine gm (by first | exact bleT.2 (by omega) | (rw [Bool.and_eq_true]; exact ⟨bleT.2 (by omega), bleT.2 (by omega)⟩)) ?_
        refine ⟨8, c6, (spl (0 + ((1 + 1) + 1)) 1 c6 (up 0 (shrI .u64 (f 6) 60) (fun _ => 0)) (ap (1 + 1) 1 (sh 0 (ap 1 1 (sh 0 (ap 0 1 (fun _ => 0) (up 0 (orI .u64 (shrI .u64 (f 3) 60) (shlI .u64 (f 4) 4)) (fun _ => 0)) 0)) (up 0 (orI .u64 (shrI .u64 (f 4) 60) (shlI .u64 (f 5) 4)) (fun _ => 0)) 0)) (up 0 (orI .u64 (shrI .u64 (f 5) 60) (shlI .u64 (f 6) 4)) (fun _ => 0)) 0)), fun μ => by kernel_rfl, by kernel_rfl, by show 4 ≤ _; omega, fun j hj => ?_⟩
        have hj : j < 4 := hj
        have hj : j = 0 ∨ j = 1 ∨ j = 2 ∨ j = 3 := by omega
        rcases hj with rfl | rfl | rfl | rfl <;> (show _ = _; kernel_rfl)
      · refine gm (by first | exact bleT.2 (by omega) | (rw [Bool.and_eq_true]; exact ⟨bleT.2 (by omega), bleT.2 (by omega)⟩)) ?_
        intro c8 h3
        refine ⟨10, c8, (ap ((1 + 1) + 1) 1 (sh 0 (ap (1 + 1) 1 (sh 0 (ap 1 1 (sh 0 (ap 0 1 (fun _ => 0) (up 0 (orI .u64 (shrI .u64 (f 3) 60) (shlI .u64 (f 4) 4)) (fun _ => 0)) 0)) (up 0 (orI .u64 (shrI .u64 (f 4) 60) (shlI .u64 (f 5) 4)) (fun _ => 0)) 0)) (up 0 (orI .u64 (shrI .u64 (f 5) 60) (shlI .u64 (f 6) 4)) (fun _ => 0)) 0)) (up 0 (shrI .u64 (f 6) 60) (fun _ => 0)) 0), fun μ => by kernel_rfl, by kernel_rfl, by show 4 ≤ _; omega, fun j hj => ?_⟩
        have hj : j < 4 := hj
        have hj : j = 0 ∨ j = 1 ∨ j = 2 ∨ j = 3 := by omega
        rcases hj with rfl | rfl | rfl | rfl <;> (show _ = _; kernel_rfl)
theorem split8 (e c : Nat) (f : Nat → Int) : awp Tryd.prog p52 noG 300 (body Tryd.f62) (ends Tryd.prog Tryd.f62 fun v m => madeK (splitD 8 f) v m) ⟨[V.sl 0 0 8 c] ++ List.replicate 44 V.un, [V.tup [V.ints .u64 (e + 8) f]]⟩ := by
  have h : awp Tryd.prog p52 noG 300 (body Tryd.f62) (ends Tryd.prog Tryd.f62 fun v m => madeK (splitD 8 f) v m) ⟨[V.sl 0 0 8 c] ++ List.replicate 44 V.un, [V.tup [V.ints .u64 (e + 8) f]]⟩ = (∀ (c1 : Nat), (1 ≤ c1) → (mB (Nat.ble (1 + 1) c1) (gB (Nat.ble (0 + 1 + 1) c1) (mB (Nat.ble ((1 + 1) + 1) c1) (gB (Nat.ble (0 + (1 + 1) + 1) c1) (mB (Nat.ble (((1 + 1) + 1) + 1) c1) (gB (Nat.ble (0 + ((1 + 1) + 1) + 1) c1) (mB (Nat.ble ((((1 + 1) + 1) + 1) + 1) c1) (gB (Nat.ble (0 + (((1 + 1) + 1) + 1) + 1) c1) (madeK (splitD 8 f) (V.tup [(V.ints .u64 4 (up 3 (andI .u64 ((sh 0 f) 3) 1152921504606846975) (sh 0 f))), (V.sl 4 0 ((((1 + 1) + 1) + 1) + 1) c1)]) [(V.tup [(V.ints .u64 (e + 8) f)]), (V.ints .u64 4 (up 3 (andI .u64 ((sh 0 f) 3) 1152921504606846975) (sh 0 f))), (V.ints .u64 4 (up 3 (andI .u64 ((sh 0 f) 3) 1152921504606846975) (sh 0 f))), (V.ints .u64 1 (up 0 (orI .u64 (shrI .u64 (f 3) 60) (shlI .u64 (f 4) 4)) (fun _ => 0))), (V.ints .u64 c1 (spl (0 + (((1 + 1) + 1) + 1)) 1 c1 (up 0 (shrI .u64 (f 7) 60) (fun _ => 0)) (spl (0 + ((1 + 1) + 1)) 1 c1 (up 0 (orI .u64 (shrI .u64 (f 6) 60) (shlI .u64 (f 7) 4)) (fun _ => 0)) (spl (0 + (1 + 1)) 1 c1 (up 0 (orI .u64 (shrI .u64 (f 5) 60) (shlI .u64 (f 6) 4)) (fun _ => 0)) (spl (0 + 1) 1 c1 (up 0 (orI .u64 (shrI .u64 (f 4) 60) (shlI .u64 (f 5) 4)) (fun _ => 0)) (ap 0 1 (fun _ => 0) (up 0 (orI .u64 (shrI .u64 (f 3) 60) (shlI .u64 (f 4) 4)) (fun _ => 0)) 0)))))), (V.ints .u64 1 (up 0 (orI .u64 (shrI .u64 (f 4) 60) (shlI .u64 (f 5) 4)) (fun _ => 0))), (V.ints .u64 1 (up 0 (orI .u64 (shrI .u64 (f 5) 60) (shlI .u64 (f 6) 4)) (fun _ => 0))), (V.ints .u64 1 (up 0 (orI .u64 (shrI .u64 (f 6) 60) (shlI .u64 (f 7) 4)) (fun _ => 0))), (V.ints .u64 1 (up 0 (shrI .u64 (f 7) 60) (fun _ => 0)))])) (gB (Nat.ble (0 + (((1 + 1) + 1) + 1)) c1 && Nat.ble ((((1 + 1) + 1) + 1) + 1) 1048576) (∀ (c5 : Nat), ((((1 + 1) + 1) + 1) + 1 ≤ c5) → (madeK (splitD 8 f) (V.tup [(V.ints .u64 4 (up 3 (andI .u64 ((sh 0 f) 3) 1152921504606846975) (sh 0 f))), (V.sl 9 0 ((((1 + 1) + 1) + 1) + 1) c5)]) [(V.tup [(V.ints .u64 (e + 8) f)]), (V.ints .u64 4 (up 3 (andI .u64 ((sh 0 f) 3) 1152921504606846975) (sh 0 f))), (V.ints .u64 4 (up 3 (andI .u64 ((sh 0 f) 3) 1152921504606846975) (sh 0 f))), (V.ints .u64 1 (up 0 (orI .u64 (shrI .u64 (f 3) 60) (shlI .u64 (f 4) 4)) (fun _ => 0))), (V.ints .u64 c1 (spl (0 + ((1 + 1) + 1)) 1 c1 (up 0 (orI .u64 (shrI .u64 (f 6) 60) (shlI .u64 (f 7) 4)) (fun _ => 0)) (spl (0 + (1 + 1)) 1 c1 (up 0 (orI .u64 (shrI .u64 (f 5) 60) (shlI .u64 (f 6) 4)) (fun _ => 0)) (spl (0 + 1) 1 c1 (up 0 (orI .u64 (shrI .u64 (f 4) 60) (shlI .u64 (f 5) 4)) (fun _ => 0)) (ap 0 1 (fun _ => 0) (up 0 (orI .u64 (shrI .u64 (f 3) 60) (shlI .u64 (f 4) 4)) (fun _ => 0)) 0))))), (V.ints .u64 1 (up 0 (orI .u64 (shrI .u64 (f 4) 60) (shlI .u64 (f 5) 4)) (fun _ => 0))), (V.ints .u64 1 (up 0 (orI .u64 (shrI .u64 (f 5) 60) (shlI .u64 (f 6) 4)) (fun _ => 0))), (V.ints .u64 1 (up 0 (orI .u64 (shrI .u64 (f 6) 60) (shlI .u64 (f 7) 4)) (fun _ => 0))), (V.ints .u64 1 (up 0 (shrI .u64 (f 7) 60) (fun _ => 0))), (V.ints .u64 c5 (ap (((1 + 1) + 1) + 1) 1 (sh 0 (spl (0 + ((1 + 1) + 1)) 1 c1 (up 0 (orI .u64 (shrI .u64 (f 6) 60) (shlI .u64 (f 7) 4)) (fun _ => 0)) (spl (0 + (1 + 1)) 1 c1 (up 0 (orI .u64 (shrI .u64 (f 5) 60) (shlI .u64 (f 6) 4)) (fun _ => 0)) (spl (0 + 1) 1 c1 (up 0 (orI .u64 (shrI .u64 (f 4) 60) (shlI .u64 (f 5) 4)) (fun _ => 0)) (ap 0 1 (fun _ => 0) (up 0 (orI .u64 (shrI .u64 (f 3) 60) (shlI .u64 (f 4) 4)) (fun _ => 0)) 0))))) (up 0 (shrI .u64 (f 7) 60) (fun _ => 0)) 0))]))))) (gB (Nat.ble (0 + ((1 + 1) + 1)) c1 && Nat.ble (((1 + 1) + 1) + 1) 1048576) (∀ (c4 : Nat), (((1 + 1) + 1) + 1 ≤ c4) → (mB (Nat.ble ((((1 + 1) + 1) + 1) + 1) c4) (gB (Nat.ble (0 + (((1 + 1) + 1) + 1) + 1) c4) (madeK (splitD 8 f) (V.tup [(V.ints .u64 4 (up 3 (andI .u64 ((sh 0 f) 3) 1152921504606846975) (sh 0 f))), (V.sl 8 0 ((((1 + 1) + 1) + 1) + 1) c4)]) [(V.tup [(V.ints .u64 (e + 8) f)]), (V.ints .u64 4 (up 3 (andI .u64 ((sh 0 f) 3) 1152921504606846975) (sh 0 f))), (V.ints .u64 4 (up 3 (andI .u64 ((sh 0 f) 3) 1152921504606846975) (sh 0 f))), (V.ints .u64 1 (up 0 (orI .u64 (shrI .u64 (f 3) 60) (shlI .u64 (f 4) 4)) (fun _ => 0))), (V.ints .u64 c1 (spl (0 + (1 + 1)) 1 c1 (up 0 (orI .u64 (shrI .u64 (f 5) 60) (shlI .u64 (f 6) 4)) (fun _ => 0)) (spl (0 + 1) 1 c1 (up 0 (orI .u64 (shrI .u64 (f 4) 60) (shlI .u64 (f 5) 4)) (fun _ => 0)) (ap 0 1 (fun _ => 0) (up 0 (orI .u64 (shrI .u64 (f 3) 60) (shlI .u64 (f 4) 4)) (fun _ => 0)) 0)))), (V.ints .u64 1 (up 0 (orI .u64 (shrI .u64 (f 4) 60) (shlI .u64 (f 5) 4)) (fun _ => 0))), (V.ints .u64 1 (up 0 (orI .u64 (shrI .u64 (f 5) 60) (shlI .u64 (f 6) 4)) (fun _ => 0))), (V.ints .u64 1 (up 0 (orI .u64 (shrI .u64 (f 6) 60) (shlI .u64 (f 7) 4)) (fun _ => 0))), (V.ints .u64 c4 (spl (0 + (((1 + 1) + 1) + 1)) 1 c4 (up 0 (shrI .u64 (f 7) 60) (fun _ => 0)) (ap ((1 + 1) + 1) 1 (sh 0 (spl (0 + (1 + 1)) 1 c1 (up 0 (orI .u64 (shrI .u64 (f 5) 60) (shlI .u64 (f 6) 4)) (fun _ => 0)) (spl (0 + 1) 1 c1 (up 0 (orI .u64 (shrI .u64 (f 4) 60) (shlI .u64 (f 5) 4)) (fun _ => 0)) (ap 0 1 (fun _ => 0) (up 0 (orI .u64 (shrI .u64 (f 3) 60) (shlI .u64 (f 4) 4)) (fun _ => 0)) 0)))) (up 0 (orI .u64 (shrI .u64 (f 6) 60) (shlI .u64 (f 7) 4)) (fun _ => 0)) 0))), (V.ints .u64 1 (up 0 (shrI .u64 (f 7) 60) (fun _ => 0)))])) (gB (Nat.ble (0 + (((1 + 1) + 1) + 1)) c4 && Nat.ble ((((1 + 1) + 1) + 1) + 1) 1048576) (∀ (c6 : Nat), ((((1 + 1) + 1) + 1) + 1 ≤ c6) → (madeK (splitD 8 f) (V.tup [(V.ints .u64 4 (up 3 (andI .u64 ((sh 0 f) 3) 1152921504606846975) (sh 0 f))), (V.sl 10 0 ((((1 + 1) + 1) + 1) + 1) c6)]) [(V.tup [(V.ints .u64 (e + 8) f)]), (V.ints .u64 4 (up 3 (andI .u64 ((sh 0 f) 3) 1152921504606846975) (sh 0 f))), (V.ints .u64 4 (up 3 (andI .u64 ((sh 0 f) 3) 1152921504606846975) (sh 0 f))), (V.ints .u64 1 (up 0 (orI .u64 (shrI .u64 (f 3) 60) (shlI .u64 (f 4) 4)) (fun _ => 0))), (V.ints .u64 c1 (spl (0 + (1 + 1)) 1 c1 (up 0 (orI .u64 (shrI .u64 (f 5) 60) (shlI .u64 (f 6) 4)) (fun _ => 0)) (spl (0 + 1) 1 c1 (up 0 (orI .u64 (shrI .u64 (f 4) 60) (shlI .u64 (f 5) 4)) (fun _ => 0)) (ap 0 1 (fun _ => 0) (up 0 (orI .u64 (shrI .u64 (f 3) 60) (shlI .u64 (f 4) 4)) (fun _ => 0)) 0)))), (V.ints .u64 1 (up 0 (orI .u64 (shrI .u64 (f 4) 60) (shlI .u64 (f 5) 4)) (fun _ => 0))), (V.ints .u64 1 (up 0 (orI .u64 (shrI .u64 (f 5) 60) (shlI .u64 (f 6) 4)) (fun _ => 0))), (V.ints .u64 1 (up 0 (orI .u64 (shrI .u64 (f 6) 60) (shlI .u64 (f 7) 4)) (fun _ => 0))), (V.ints .u64 c4 (ap ((1 + 1) + 1) 1 (sh 0 (spl (0 + (1 + 1)) 1 c1 (up 0 (orI .u64 (shrI .u64 (f 5) 60) (shlI .u64 (f 6) 4)) (fun _ => 0)) (spl (0 + 1) 1 c1 (up 0 (orI .u64 (shrI .u64 (f 4) 60) (shlI .u64 (f 5) 4)) (fun _ => 0)) (ap 0 1 (fun _ => 0) (up 0 (orI .u64 (shrI .u64 (f 3) 60) (shlI .u64 (f 4) 4)) (fun _ => 0)) 0)))) (up 0 (orI .u64 (shrI .u64 (f 6) 60) (shlI .u64 (f 7) 4)) (fun _ => 0)) 0)), (V.ints .u64 1 (up 0 (shrI .u64 (f 7) 60) (fun _ => 0))), (V.ints .u64 c6 (ap (((1 + 1) + 1) + 1) 1 (sh 0 (ap ((1 + 1) + 1) 1 (sh 0 (spl (0 + (1 + 1)) 1 c1 (up 0 (orI .u64 (shrI .u64 (f 5) 60) (shlI .u64 (f 6) 4)) (fun _ => 0)) (spl (0 + 1) 1 c1 (up 0 (orI .u64 (shrI .u64 (f 4) 60) (shlI .u64 (f 5) 4)) (fun _ => 0)) (ap 0 1 (fun _ => 0) (up 0 (orI .u64 (shrI .u64 (f 3) 60) (shlI .u64 (f 4) 4)) (fun _ => 0)) 0)))) (up 0 (orI .u64 (shrI .u64 (f 6) 60) (shlI .u64 (f 7) 4)) (fun _ => 0)) 0)) (up 0 (shrI .u64 (f 7) 60) (fun _ => 0)) 0))])))))))) (gB (Nat.ble (0 + (1 + 1)) c1 && Nat.ble ((1 + 1) + 1) 1048576) (∀ (c3 : Nat), ((1 + 1) + 1 ≤ c3) → (mB (Nat.ble (((1 + 1) + 1) + 1) c3) (gB (Nat.ble (0 + ((1 + 1) + 1) + 1) c3) (mB (Nat.ble ((((1 + 1) + 1) + 1) + 1) c3) (gB (Nat.ble (0 + (((1 + 1) + 1) + 1) + 1) c3) (madeK (splitD 8 f) (V.tup [(V.ints .u64 4 (up 3 (andI .u64 ((sh 0 f) 3) 1152921504606846975) (sh 0 f))), (V.sl 7 0 ((((1 + 1) + 1) + 1) + 1) c3)]) [(V.tup [(V.ints .u64 (e + 8) f)]), (V.ints .u64 4 (up 3 (andI .u64 ((sh 0 f) 3) 1152921504606846975) (sh 0 f))), (V.ints .u64 4 (up 3 (andI .u64 ((sh 0 f) 3) 1152921504606846975) (sh 0 f))), (V.ints .u64 1 (up 0 (orI .u64 (shrI .u64 (f 3) 60) (shlI .u64 (f 4) 4)) (fun _ => 0))), (V.ints .u64 c1 (spl (0 + 1) 1 c1 (up 0 (orI .u64 (shrI .u64 (f 4) 60) (shlI .u64 (f 5) 4)) (fun _ => 0)) (ap 0 1 (fun _ => 0) (up 0 (orI .u64 (shrI .u64 (f 3) 60) (shlI .u64 (f 4) 4)) (fun _ => 0)) 0))), (V.ints .u64 1 (up 0 (orI .u64 (shrI .u64 (f 4) 60) (shlI .u64 (f 5) 4)) (fun _ => 0))), (V.ints .u64 1 (up 0 (orI .u64 (shrI .u64 (f 5) 60) (shlI .u64 (f 6) 4)) (fun _ => 0))), (V.ints .u64 c3 (spl (0 + (((1 + 1) + 1) + 1)) 1 c3 (up 0 (shrI .u64 (f 7) 60) (fun _ => 0)) (spl (0 + ((1 + 1) + 1)) 1 c3 (up 0 (orI .u64 (shrI .u64 (f 6) 60) (shlI .u64 (f 7) 4)) (fun _ => 0)) (ap (1 + 1) 1 (sh 0 (spl (0 + 1) 1 c1 (up 0 (orI .u64 (shrI .u64 (f 4) 60) (shlI .u64 (f 5) 4)) (fun _ => 0)) (ap 0 1 (fun _ => 0) (up 0 (orI .u64 (shrI .u64 (f 3) 60) (shlI .u64 (f 4) 4)) (fun _ => 0)) 0))) (up 0 (orI .u64 (shrI .u64 (f 5) 60) (shlI .u64 (f 6) 4)) (fun _ => 0)) 0)))), (V.ints .u64 1 (up 0 (orI .u64 (shrI .u64 (f 6) 60) (shlI .u64 (f 7) 4)) (fun _ => 0))), (V.ints .u64 1 (up 0 (shrI .u64 (f 7) 60) (fun _ => 0)))])) (gB (Nat.ble (0 + (((1 + 1) + 1) + 1)) c3 && Nat.ble ((((1 + 1) + 1) + 1) + 1) 1048576) (∀ (c8 : Nat), ((((1 + 1) + 1) + 1) + 1 ≤ c8) → (madeK (splitD 8 f) (V.tup [(V.ints .u64 4 (up 3 (andI .u64 ((sh 0 f) 3) 1152921504606846975) (sh 0 f))), (V.sl 10 0 ((((1 + 1) + 1) + 1) + 1) c8)]) [(V.tup [(V.ints .u64 (e + 8) f)]), (V.ints .u64 4 (up 3 (andI .u64 ((sh 0 f) 3) 1152921504606846975) (sh 0 f))), (V.ints .u64 4 (up 3 (andI .u64 ((sh 0 f) 3) 1152921504606846975) (sh 0 f))), (V.ints .u64 1 (up 0 (orI .u64 (shrI .u64 (f 3) 60) (shlI .u64 (f 4) 4)) (fun _ => 0))), (V.ints .u64 c1 (spl (0 + 1) 1 c1 (up 0 (orI .u64 (shrI .u64 (f 4) 60) (shlI .u64 (f 5) 4)) (fun _ => 0)) (ap 0 1 (fun _ => 0) (up 0 (orI .u64 (shrI .u64 (f 3) 60) (shlI .u64 (f 4) 4)) (fun _ => 0)) 0))), (V.ints .u64 1 (up 0 (orI .u64 (shrI .u64 (f 4) 60) (shlI .u64 (f 5) 4)) (fun _ => 0))), (V.ints .u64 1 (up 0 (orI .u64 (shrI .u64 (f 5) 60) (shlI .u64 (f 6) 4)) (fun _ => 0))), (V.ints .u64 c3 (spl (0 + ((1 + 1) + 1)) 1 c3 (up 0 (orI .u64 (shrI .u64 (f 6) 60) (shlI .u64 (f 7) 4)) (fun _ => 0)) (ap (1 + 1) 1 (sh 0 (spl (0 + 1) 1 c1 (up 0 (orI .u64 (shrI .u64 (f 4) 60) (shlI .u64 (f 5) 4)) (fun _ => 0)) (ap 0 1 (fun _ => 0) (up 0 (orI .u64 (shrI .u64 (f 3) 60) (shlI .u64 (f 4) 4)) (fun _ => 0)) 0))) (up 0 (orI .u64 (shrI .u64 (f 5) 60) (shlI .u64 (f 6) 4)) (fun _ => 0)) 0))), (V.ints .u64 1 (up 0 (orI .u64 (shrI .u64 (f 6) 60) (shlI .u64 (f 7) 4)) (fun _ => 0))), (V.ints .u64 1 (up 0 (shrI .u64 (f 7) 60) (fun _ => 0))), (V.ints .u64 c8 (ap (((1 + 1) + 1) + 1) 1 (sh 0 (spl (0 + ((1 + 1) + 1)) 1 c3 (up 0 (orI .u64 (shrI .u64 (f 6) 60) (shlI .u64 (f 7) 4)) (fun _ => 0)) (ap (1 + 1) 1 (sh 0 (spl (0 + 1) 1 c1 (up 0 (orI .u64 (shrI .u64 (f 4) 60) (shlI .u64 (f 5) 4)) (fun _ => 0)) (ap 0 1 (fun _ => 0) (up 0 (orI .u64 (shrI .u64 (f 3) 60) (shlI .u64 (f 4) 4)) (fun _ => 0)) 0))) (up 0 (orI .u64 (shrI .u64 (f 5) 60) (shlI .u64 (f 6) 4)) (fun _ => 0)) 0))) (up 0 (shrI .u64 (f 7) 60) (fun _ => 0)) 0))]))))) (gB (Nat.ble (0 + ((1 + 1) + 1)) c3 && Nat.ble (((1 + 1) + 1) + 1) 1048576) (∀ (c7 : Nat), (((1 + 1) + 1) + 1 ≤ c7) → (mB (Nat.ble ((((1 + 1) + 1) + 1) + 1) c7) (gB (Nat.ble (0 + (((1 + 1) + 1) + 1) + 1) c7) (madeK (splitD 8 f) (V.tup [(V.ints .u64 4 (up 3 (andI .u64 ((sh 0 f) 3) 1152921504606846975) (sh 0 f))), (V.sl 9 0 ((((1 + 1) + 1) + 1) + 1) c7)]) [(V.tup [(V.ints .u64 (e + 8) f)]), (V.ints .u64 4 (up 3 (andI .u64 ((sh 0 f) 3) 1152921504606846975) (sh 0 f))), (V.ints .u64 4 (up 3 (andI .u64 ((sh 0 f) 3) 1152921504606846975) (sh 0 f))), (V.ints .u64 1 (up 0 (orI .u64 (shrI .u64 (f 3) 60) (shlI .u64 (f 4) 4)) (fun _ => 0))), (V.ints .u64 c1 (spl (0 + 1) 1 c1 (up 0 (orI .u64 (shrI .u64 (f 4) 60) (shlI .u64 (f 5) 4)) (fun _ => 0)) (ap 0 1 (fun _ => 0) (up 0 (orI .u64 (shrI .u64 (f 3) 60) (shlI .u64 (f 4) 4)) (fun _ => 0)) 0))), (V.ints .u64 1 (up 0 (orI .u64 (shrI .u64 (f 4) 60) (shlI .u64 (f 5) 4)) (fun _ => 0))), (V.ints .u64 1 (up 0 (orI .u64 (shrI .u64 (f 5) 60) (shlI .u64 (f 6) 4)) (fun _ => 0))), (V.ints .u64 c3 (ap (1 + 1) 1 (sh 0 (spl (0 + 1) 1 c1 (up 0 (orI .u64 (shrI .u64 (f 4) 60) (shlI .u64 (f 5) 4)) (fun _ => 0)) (ap 0 1 (fun _ => 0) (up 0 (orI .u64 (shrI .u64 (f 3) 60) (shlI .u64 (f 4) 4)) (fun _ => 0)) 0))) (up 0 (orI .u64 (shrI .u64 (f 5) 60) (shlI .u64 (f 6) 4)) (fun _ => 0)) 0)), (V.ints .u64 1 (up 0 (orI .u64 (shrI .u64 (f 6) 60) (shlI .u64 (f 7) 4)) (fun _ => 0))), (V.ints .u64 c7 (spl (0 + (((1 + 1) + 1) + 1)) 1 c7 (up 0 (shrI .u64 (f 7) 60) (fun _ => 0)) (ap ((1 + 1) + 1) 1 (sh 0 (ap (1 + 1) 1 (sh 0 (spl (0 + 1) 1 c1 (up 0 (orI .u64 (shrI .u64 (f 4) 60) (shlI .u64 (f 5) 4)) (fun _ => 0)) (ap 0 1 (fun _ => 0) (up 0 (orI .u64 (shrI .u64 (f 3) 60) (shlI .u64 (f 4) 4)) (fun _ => 0)) 0))) (up 0 (orI .u64 (shrI .u64 (f 5) 60) (shlI .u64 (f 6) 4)) (fun _ => 0)) 0)) (up 0 (orI .u64 (shrI .u64 (f 6) 60) (shlI .u64 (f 7) 4)) (fun _ => 0)) 0))), (V.ints .u64 1 (up 0 (shrI .u64 (f 7) 60) (fun _ => 0)))])) (gB (Nat.ble (0 + (((1 + 1) + 1) + 1)) c7 && Nat.ble ((((1 + 1) + 1) + 1) + 1) 1048576) (∀ (c9 : Nat), ((((1 + 1) + 1) + 1) + 1 ≤ c9) → (madeK (splitD 8 f) (V.tup [(V.ints .u64 4 (up 3 (andI .u64 ((sh 0 f) 3) 1152921504606846975) (sh 0 f))), (V.sl 11 0 ((((1 + 1) + 1) + 1) + 1) c9)]) [(V.tup [(V.ints .u64 (e + 8) f)]), (V.ints .u64 4 (up 3 (andI .u64 ((sh 0 f) 3) 1152921504606846975) (sh 0 f))), (V.ints .u64 4 (up 3 (andI .u64 ((sh 0 f) 3) 1152921504606846975) (sh 0 f))), (V.ints .u64 1 (up 0 (orI .u64 (shrI .u64 (f 3) 60) (shlI .u64 (f 4) 4)) (fun _ => 0))), (V.ints .u64 c1 (spl (0 + 1) 1 c1 (up 0 (orI .u64 (shrI .u64 (f 4) 60) (shlI .u64 (f 5) 4)) (fun _ => 0)) (ap 0 1 (fun _ => 0) (up 0 (orI .u64 (shrI .u64 (f 3) 60) (shlI .u64 (f 4) 4)) (fun _ => 0)) 0))), (V.ints .u64 1 (up 0 (orI .u64 (shrI .u64 (f 4) 60) (shlI .u64 (f 5) 4)) (fun _ => 0))), (V.ints .u64 1 (up 0 (orI .u64 (shrI .u64 (f 5) 60) (shlI .u64 (f 6) 4)) (fun _ => 0))), (V.ints .u64 c3 (ap (1 + 1) 1 (sh 0 (spl (0 + 1) 1 c1 (up 0 (orI .u64 (shrI .u64 (f 4) 60) (shlI .u64 (f 5) 4)) (fun _ => 0)) (ap 0 1 (fun _ => 0) (up 0 (orI .u64 (shrI .u64 (f 3) 60) (shlI .u64 (f 4) 4)) (fun _ => 0)) 0))) (up 0 (orI .u64 (shrI .u64 (f 5) 60) (shlI .u64 (f 6) 4)) (fun _ => 0)) 0)), (V.ints .u64 1 (up 0 (orI .u64 (shrI .u64 (f 6) 60) (shlI .u64 (f 7) 4)) (fun _ => 0))), (V.ints .u64 c7 (ap ((1 + 1) + 1) 1 (sh 0 (ap (1 + 1) 1 (sh 0 (spl (0 + 1) 1 c1 (up 0 (orI .u64 (shrI .u64 (f 4) 60) (shlI .u64 (f 5) 4)) (fun _ => 0)) (ap 0 1 (fun _ => 0) (up 0 (orI .u64 (shrI .u64 (f 3) 60) (shlI .u64 (f 4) 4)) (fun _ => 0)) 0))) (up 0 (orI .u64 (shrI .u64 (f 5) 60) (shlI .u64 (f 6) 4)) (fun _ => 0)) 0)) (up 0 (orI .u64 (shrI .u64 (f 6) 60) (shlI .u64 (f 7) 4)) (fun _ => 0)) 0)), (V.ints .u64 1 (up 0 (shrI .u64 (f 7) 60) (fun _ => 0))), (V.ints .u64 c9 (ap (((1 + 1) + 1) + 1) 1 (sh 0 (ap ((1 + 1) + 1) 1 (sh 0 (ap (1 + 1) 1 (sh 0 (spl (0 + 1) 1 c1 (up 0 (orI .u64 (shrI .u64 (f 4) 60) (shlI .u64 (f 5) 4)) (fun _ => 0)) (ap 0 1 (fun _ => 0) (up 0 (orI .u64 (shrI .u64 (f 3) 60) (shlI .u64 (f 4) 4)) (fun _ => 0)) 0))) (up 0 (orI .u64 (shrI .u64 (f 5) 60) (shlI .u64 (f 6) 4)) (fun _ => 0)) 0)) (up 0 (orI .u64 (shrI .u64 (f 6) 60) (shlI .u64 (f 7) 4)) (fun _ => 0)) 0)) (up 0 (shrI .u64 (f 7) 60) (fun _ => 0)) 0))]))))))))))) (gB (Nat.ble (0 + 1) c1 && Nat.ble (1 + 1) 1048576) (∀ (c2 : Nat), (1 + 1 ≤ c2) → (mB (Nat.ble ((1 + 1) + 1) c2) (gB (Nat.ble (0 + (1 + 1) + 1) c2) (mB (Nat.ble (((1 + 1) + 1) + 1) c2) (gB (Nat.ble (0 + ((1 + 1) + 1) + 1) c2) (mB (Nat.ble ((((1 + 1) + 1) + 1) + 1) c2) (gB (Nat.ble (0 + (((1 + 1) + 1) + 1) + 1) c2) (madeK (splitD 8 f) (V.tup [(V.ints .u64 4 (up 3 (andI .u64 ((sh 0 f) 3) 1152921504606846975) (sh 0 f))), (V.sl 6 0 ((((1 + 1) + 1) + 1) + 1) c2)]) [(V.tup [(V.ints .u64 (e + 8) f)]), (V.ints .u64 4 (up 3 (andI .u64 ((sh 0 f) 3) 1152921504606846975) (sh 0 f))), (V.ints .u64 4 (up 3 (andI .u64 ((sh 0 f) 3) 1152921504606846975) (sh 0 f))), (V.ints .u64 1 (up 0 (orI .u64 (shrI .u64 (f 3) 60) (shlI .u64 (f 4) 4)) (fun _ => 0))), (V.ints .u64 c1 (ap 0 1 (fun _ => 0) (up 0 (orI .u64 (shrI .u64 (f 3) 60) (shlI .u64 (f 4) 4)) (fun _ => 0)) 0)), (V.ints .u64 1 (up 0 (orI .u64 (shrI .u64 (f 4) 60) (shlI .u64 (f 5) 4)) (fun _ => 0))), (V.ints .u64 c2 (spl (0 + (((1 + 1) + 1) + 1)) 1 c2 (up 0 (shrI .u64 (f 7) 60) (fun _ => 0)) (spl (0 + ((1 + 1) + 1)) 1 c2 (up 0 (orI .u64 (shrI .u64 (f 6) 60) (shlI .u64 (f 7) 4)) (fun _ => 0)) (spl (0 + (1 + 1)) 1 c2 (up 0 (orI .u64 (shrI .u64 (f 5) 60) (shlI .u64 (f 6) 4)) (fun _ => 0)) (ap 1 1 (sh 0 (ap 0 1 (fun _ => 0) (up 0 (orI .u64 (shrI .u64 (f 3) 60) (shlI .u64 (f 4) 4)) (fun _ => 0)) 0)) (up 0 (orI .u64 (shrI .u64 (f 4) 60) (shlI .u64 (f 5) 4)) (fun _ => 0)) 0))))), (V.ints .u64 1 (up 0 (orI .u64 (shrI .u64 (f 5) 60) (shlI .u64 (f 6) 4)) (fun _ => 0))), (V.ints .u64 1 (up 0 (orI .u64 (shrI .u64 (f 6) 60) (shlI .u64 (f 7) 4)) (fun _ => 0))), (V.ints .u64 1 (up 0 (shrI .u64 (f 7) 60) (fun _ => 0)))])) (gB (Nat.ble (0 + (((1 + 1) + 1) + 1)) c2 && Nat.ble ((((1 + 1) + 1) + 1) + 1) 1048576) (∀ (c12 : Nat), ((((1 + 1) + 1) + 1) + 1 ≤ c12) → (madeK (splitD 8 f) (V.tup [(V.ints .u64 4 (up 3 (andI .u64 ((sh 0 f) 3) 1152921504606846975) (sh 0 f))), (V.sl 10 0 ((((1 + 1) + 1) + 1) + 1) c12)]) [(V.tup [(V.ints .u64 (e + 8) f)]), (V.ints .u64 4 (up 3 (andI .u64 ((sh 0 f) 3) 1152921504606846975) (sh 0 f))), (V.ints .u64 4 (up 3 (andI .u64 ((sh 0 f) 3) 1152921504606846975) (sh 0 f))), (V.ints .u64 1 (up 0 (orI .u64 (shrI .u64 (f 3) 60) (shlI .u64 (f 4) 4)) (fun _ => 0))), (V.ints .u64 c1 (ap 0 1 (fun _ => 0) (up 0 (orI .u64 (shrI .u64 (f 3) 60) (shlI .u64 (f 4) 4)) (fun _ => 0)) 0)), (V.ints .u64 1 (up 0 (orI .u64 (shrI .u64 (f 4) 60) (shlI .u64 (f 5) 4)) (fun _ => 0))), (V.ints .u64 c2 (spl (0 + ((1 + 1) + 1)) 1 c2 (up 0 (orI .u64 (shrI .u64 (f 6) 60) (shlI .u64 (f 7) 4)) (fun _ => 0)) (spl (0 + (1 + 1)) 1 c2 (up 0 (orI .u64 (shrI .u64 (f 5) 60) (shlI .u64 (f 6) 4)) (fun _ => 0)) (ap 1 1 (sh 0 (ap 0 1 (fun _ => 0) (up 0 (orI .u64 (shrI .u64 (f 3) 60) (shlI .u64 (f 4) 4)) (fun _ => 0)) 0)) (up 0 (orI .u64 (shrI .u64 (f 4) 60) (shlI .u64 (f 5) 4)) (fun _ => 0)) 0)))), (V.ints .u64 1 (up 0 (orI .u64 (shrI .u64 (f 5) 60) (shlI .u64 (f 6) 4)) (fun _ => 0))), (V.ints .u64 1 (up 0 (orI .u64 (shrI .u64 (f 6) 60) (shlI .u64 (f 7) 4)) (fun _ => 0))), (V.ints .u64 1 (up 0 (shrI .u64 (f 7) 60) (fun _ => 0))), (V.ints .u64 c12 (ap (((1 + 1) + 1) + 1) 1 (sh 0 (spl (0 + ((1 + 1) + 1)) 1 c2 (up 0 (orI .u64 (shrI .u64 (f 6) 60) (shlI .u64 (f 7) 4)) (fun _ => 0)) (spl (0 + (1 + 1)) 1 c2 (up 0 (orI .u64 (shrI .u64 (f 5) 60) (shlI .u64 (f 6) 4)) (fun _ => 0)) (ap 1 1 (sh 0 (ap 0 1 (fun _ => 0) (up 0 (orI .u64 (shrI .u64 (f 3) 60) (shlI .u64 (f 4) 4)) (fun _ => 0)) 0)) (up 0 (orI .u64 (shrI .u64 (f 4) 60) (shlI .u64 (f 5) 4)) (fun _ => 0)) 0)))) (up 0 (shrI .u64 (f 7) 60) (fun _ => 0)) 0))]))))) (gB (Nat.ble (0 + ((1 + 1) + 1)) c2 && Nat.ble (((1 + 1) + 1) + 1) 1048576) (∀ (c11 : Nat), (((1 + 1) + 1) + 1 ≤ c11) → (mB (Nat.ble ((((1 + 1) + 1) + 1) + 1) c11) (gB (Nat.ble (0 + (((1 + 1) + 1) + 1) + 1) c11) (madeK (splitD 8 f) (V.tup [(V.ints .u64 4 (up 3 (andI .u64 ((sh 0 f) 3) 1152921504606846975) (sh 0 f))), (V.sl 9 0 ((((1 + 1) + 1) + 1) + 1) c11)]) [(V.tup [(V.ints .u64 (e + 8) f)]), (V.ints .u64 4 (up 3 (andI .u64 ((sh 0 f) 3) 1152921504606846975) (sh 0 f))), (V.ints .u64 4 (up 3 (andI .u64 ((sh 0 f) 3) 1152921504606846975) (sh 0 f))), (V.ints .u64 1 (up 0 (orI .u64 (shrI .u64 (f 3) 60) (shlI .u64 (f 4) 4)) (fun _ => 0))), (V.ints .u64 c1 (ap 0 1 (fun _ => 0) (up 0 (orI .u64 (shrI .u64 (f 3) 60) (shlI .u64 (f 4) 4)) (fun _ => 0)) 0)), (V.ints .u64 1 (up 0 (orI .u64 (shrI .u64 (f 4) 60) (shlI .u64 (f 5) 4)) (fun _ => 0))), (V.ints .u64 c2 (spl (0 + (1 + 1)) 1 c2 (up 0 (orI .u64 (shrI .u64 (f 5) 60) (shlI .u64 (f 6) 4)) (fun _ => 0)) (ap 1 1 (sh 0 (ap 0 1 (fun _ => 0) (up 0 (orI .u64 (shrI .u64 (f 3) 60) (shlI .u64 (f 4) 4)) (fun _ => 0)) 0)) (up 0 (orI .u64 (shrI .u64 (f 4) 60) (shlI .u64 (f 5) 4)) (fun _ => 0)) 0))), (V.ints .u64 1 (up 0 (orI .u64 (shrI .u64 (f 5) 60) (shlI .u64 (f 6) 4)) (fun _ => 0))), (V.ints .u64 1 (up 0 (orI .u64 (shrI .u64 (f 6) 60) (shlI .u64 (f 7) 4)) (fun _ => 0))), (V.ints .u64 c11 (spl (0 + (((1 + 1) + 1) + 1)) 1 c11 (up 0 (shrI .u64 (f 7) 60) (fun _ => 0)) (ap ((1 + 1) + 1) 1 (sh 0 (spl (0 + (1 + 1)) 1 c2 (up 0 (orI .u64 (shrI .u64 (f 5) 60) (shlI .u64 (f 6) 4)) (fun _ => 0)) (ap 1 1 (sh 0 (ap 0 1 (fun _ => 0) (up 0 (orI .u64 (shrI .u64 (f 3) 60) (shlI .u64 (f 4) 4)) (fun _ => 0)) 0)) (up 0 (orI .u64 (shrI .u64 (f 4) 60) (shlI .u64 (f 5) 4)) (fun _ => 0)) 0))) (up 0 (orI .u64 (shrI .u64 (f 6) 60) (shlI .u64 (f 7) 4)) (fun _ => 0)) 0))), (V.ints .u64 1 (up 0 (shrI .u64 (f 7) 60) (fun _ => 0)))])) (gB (Nat.ble (0 + (((1 + 1) + 1) + 1)) c11 && Nat.ble ((((1 + 1) + 1) + 1) + 1) 1048576) (∀ (c13 : Nat), ((((1 + 1) + 1) + 1) + 1 ≤ c13) → (madeK (splitD 8 f) (V.tup [(V.ints .u64 4 (up 3 (andI .u64 ((sh 0 f) 3) 1152921504606846975) (sh 0 f))), (V.sl 11 0 ((((1 + 1) + 1) + 1) + 1) c13)]) [(V.tup [(V.ints .u64 (e + 8) f)]), (V.ints .u64 4 (up 3 (andI .u64 ((sh 0 f) 3) 1152921504606846975) (sh 0 f))), (V.ints .u64 4 (up 3 (andI .u64 ((sh 0 f) 3) 1152921504606846975) (sh 0 f))), (V.ints .u64 1 (up 0 (orI .u64 (shrI .u64 (f 3) 60) (shlI .u64 (f 4) 4)) (fun _ => 0))), (V.ints .u64 c1 (ap 0 1 (fun _ => 0) (up 0 (orI .u64 (shrI .u64 (f 3) 60) (shlI .u64 (f 4) 4)) (fun _ => 0)) 0)), (V.ints .u64 1 (up 0 (orI .u64 (shrI .u64 (f 4) 60) (shlI .u64 (f 5) 4)) (fun _ => 0))), (V.ints .u64 c2 (spl (0 + (1 + 1)) 1 c2 (up 0 (orI .u64 (shrI .u64 (f 5) 60) (shlI .u64 (f 6) 4)) (fun _ => 0)) (ap 1 1 (sh 0 (ap 0 1 (fun _ => 0) (up 0 (orI .u64 (shrI .u64 (f 3) 60) (shlI .u64 (f 4) 4)) (fun _ => 0)) 0)) (up 0 (orI .u64 (shrI .u64 (f 4) 60) (shlI .u64 (f 5) 4)) (fun _ => 0)) 0))), (V.ints .u64 1 (up 0 (orI .u64 (shrI .u64 (f 5) 60) (shlI .u64 (f 6) 4)) (fun _ => 0))), (V.ints .u64 1 (up 0 (orI .u64 (shrI .u64 (f 6) 60) (shlI .u64 (f 7) 4)) (fun _ => 0))), (V.ints .u64 c11 (ap ((1 + 1) + 1) 1 (sh 0 (spl (0 + (1 + 1)) 1 c2 (up 0 (orI .u64 (shrI .u64 (f 5) 60) (shlI .u64 (f 6) 4)) (fun _ => 0)) (ap 1 1 (sh 0 (ap 0 1 (fun _ => 0) (up 0 (orI .u64 (shrI .u64 (f 3) 60) (shlI .u64 (f 4) 4)) (fun _ => 0)) 0)) (up 0 (orI .u64 (shrI .u64 (f 4) 60) (shlI .u64 (f 5) 4)) (fun _ => 0)) 0))) (up 0 (orI .u64 (shrI .u64 (f 6) 60) (shlI .u64 (f 7) 4)) (fun _ => 0)) 0)), (V.ints .u64 1 (up 0 (shrI .u64 (f 7) 60) (fun _ => 0))), (V.ints .u64 c13 (ap (((1 + 1) + 1) + 1) 1 (sh 0 (ap ((1 + 1) + 1) 1 (sh 0 (spl (0 + (1 + 1)) 1 c2 (up 0 (orI .u64 (shrI .u64 (f 5) 60) (shlI .u64 (f 6) 4)) (fun _ => 0)) (ap 1 1 (sh 0 (ap 0 1 (fun _ => 0) (up 0 (orI .u64 (shrI .u64 (f 3) 60) (shlI .u64 (f 4) 4)) (fun _ => 0)) 0)) (up 0 (orI .u64 (shrI .u64 (f 4) 60) (shlI .u64 (f 5) 4)) (fun _ => 0)) 0))) (up 0 (orI .u64 (shrI .u64 (f 6) 60) (shlI .u64 (f 7) 4)) (fun _ => 0)) 0)) (up 0 (shrI .u64 (f 7) 60) (fun _ => 0)) 0))])))))))) (gB (Nat.ble (0 + (1 + 1)) c2 && Nat.ble ((1 + 1) + 1) 1048576) (∀ (c10 : Nat), ((1 + 1) + 1 ≤ c10) → (mB (Nat.ble (((1 + 1) + 1) + 1) c10) (gB (Nat.ble (0 + ((1 + 1) + 1) + 1) c10) (mB (Nat.ble ((((1 + 1) + 1) + 1) + 1) c10) (gB (Nat.ble (0 + (((1 + 1) + 1) + 1) + 1) c10) (madeK (splitD 8 f) (V.tup [(V.ints .u64 4 (up 3 (andI .u64 ((sh 0 f) 3) 1152921504606846975) (sh 0 f))), (V.sl 8 0 ((((1 + 1) + 1) + 1) + 1) c10)]) [(V.tup [(V.ints .u64 (e + 8) f)]), (V.ints .u64 4 (up 3 (andI .u64 ((sh 0 f) 3) 1152921504606846975) (sh 0 f))), (V.ints .u64 4 (up 3 (andI .u64 ((sh 0 f) 3) 1152921504606846975) (sh 0 f))), (V.ints .u64 1 (up 0 (orI .u64 (shrI .u64 (f 3) 60) (shlI .u64 (f 4) 4)) (fun _ => 0))), (V.ints .u64 c1 (ap 0 1 (fun _ => 0) (up 0 (orI .u64 (shrI .u64 (f 3) 60) (shlI .u64 (f 4) 4)) (fun _ => 0)) 0)), (V.ints .u64 1 (up 0 (orI .u64 (shrI .u64 (f 4) 60) (shlI .u64 (f 5) 4)) (fun _ => 0))), (V.ints .u64 c2 (ap 1 1 (sh 0 (ap 0 1 (fun _ => 0) (up 0 (orI .u64 (shrI .u64 (f 3) 60) (shlI .u64 (f 4) 4)) (fun _ => 0)) 0)) (up 0 (orI .u64 (shrI .u64 (f 4) 60) (shlI .u64 (f 5) 4)) (fun _ => 0)) 0)), (V.ints .u64 1 (up 0 (orI .u64 (shrI .u64 (f 5) 60) (shlI .u64 (f 6) 4)) (fun _ => 0))), (V.ints .u64 c10 (spl (0 + (((1 + 1) + 1) + 1)) 1 c10 (up 0 (shrI .u64 (f 7) 60) (fun _ => 0)) (spl (0 + ((1 + 1) + 1)) 1 c10 (up 0 (orI .u64 (shrI .u64 (f 6) 60) (shlI .u64 (f 7) 4)) (fun _ => 0)) (ap (1 + 1) 1 (sh 0 (ap 1 1 (sh 0 (ap 0 1 (fun _ => 0) (up 0 (orI .u64 (shrI .u64 (f 3) 60) (shlI .u64 (f 4) 4)) (fun _ => 0)) 0)) (up 0 (orI .u64 (shrI .u64 (f 4) 60) (shlI .u64 (f 5) 4)) (fun _ => 0)) 0)) (up 0 (orI .u64 (shrI .u64 (f 5) 60) (shlI .u64 (f 6) 4)) (fun _ => 0)) 0)))), (V.ints .u64 1 (up 0 (orI .u64 (shrI .u64 (f 6) 60) (shlI .u64 (f 7) 4)) (fun _ => 0))), (V.ints .u64 1 (up 0 (shrI .u64 (f 7) 60) (fun _ => 0)))])) (gB (Nat.ble (0 + (((1 + 1) + 1) + 1)) c10 && Nat.ble ((((1 + 1) + 1) + 1) + 1) 1048576) (∀ (c15 : Nat), ((((1 + 1) + 1) + 1) + 1 ≤ c15) → (madeK (splitD 8 f) (V.tup [(V.ints .u64 4 (up 3 (andI .u64 ((sh 0 f) 3) 1152921504606846975) (sh 0 f))), (V.sl 11 0 ((((1 + 1) + 1) + 1) + 1) c15)]) [(V.tup [(V.ints .u64 (e + 8) f)]), (V.ints .u64 4 (up 3 (andI .u64 ((sh 0 f) 3) 1152921504606846975) (sh 0 f))), (V.ints .u64 4 (up 3 (andI .u64 ((sh 0 f) 3) 1152921504606846975) (sh 0 f))), (V.ints .u64 1 (up 0 (orI .u64 (shrI .u64 (f 3) 60) (shlI .u64 (f 4) 4)) (fun _ => 0))), (V.ints .u64 c1 (ap 0 1 (fun _ => 0) (up 0 (orI .u64 (shrI .u64 (f 3) 60) (shlI .u64 (f 4) 4)) (fun _ => 0)) 0)), (V.ints .u64 1 (up 0 (orI .u64 (shrI .u64 (f 4) 60) (shlI .u64 (f 5) 4)) (fun _ => 0))), (V.ints .u64 c2 (ap 1 1 (sh 0 (ap 0 1 (fun _ => 0) (up 0 (orI .u64 (shrI .u64 (f 3) 60) (shlI .u64 (f 4) 4)) (fun _ => 0)) 0)) (up 0 (orI .u64 (shrI .u64 (f 4) 60) (shlI .u64 (f 5) 4)) (fun _ => 0)) 0)), (V.ints .u64 1 (up 0 (orI .u64 (shrI .u64 (f 5) 60) (shlI .u64 (f 6) 4)) (fun _ => 0))), (V.ints .u64 c10 (spl (0 + ((1 + 1) + 1)) 1 c10 (up 0 (orI .u64 (shrI .u64 (f 6) 60) (shlI .u64 (f 7) 4)) (fun _ => 0)) (ap (1 + 1) 1 (sh 0 (ap 1 1 (sh 0 (ap 0 1 (fun _ => 0) (up 0 (orI .u64 (shrI .u64 (f 3) 60) (shlI .u64 (f 4) 4)) (fun _ => 0)) 0)) (up 0 (orI .u64 (shrI .u64 (f 4) 60) (shlI .u64 (f 5) 4)) (fun _ => 0)) 0)) (up 0 (orI .u64 (shrI .u64 (f 5) 60) (shlI .u64 (f 6) 4)) (fun _ => 0)) 0))), (V.ints .u64 1 (up 0 (orI .u64 (shrI .u64 (f 6) 60) (shlI .u64 (f 7) 4)) (fun _ => 0))), (V.ints .u64 1 (up 0 (shrI .u64 (f 7) 60) (fun _ => 0))), (V.ints .u64 c15 (ap (((1 + 1) + 1) + 1) 1 (sh 0 (spl (0 + ((1 + 1) + 1)) 1 c10 (up 0 (orI .u64 (shrI .u64 (f 6) 60) (shlI .u64 (f 7) 4)) (fun _ => 0)) (ap (1 + 1) 1 (sh 0 (ap 1 1 (sh 0 (ap 0 1 (fun _ => 0) (up 0 (orI .u64 (shrI .u64 (f 3) 60) (shlI .u64 (f 4) 4)) (fun _ => 0)) 0)) (up 0 (orI .u64 (shrI .u64 (f 4) 60) (shlI .u64 (f 5) 4)) (fun _ => 0)) 0)) (up 0 (orI .u64 (shrI .u64 (f 5) 60) (shlI .u64 (f 6) 4)) (fun _ => 0)) 0))) (up 0 (shrI .u64 (f 7) 60) (fun _ => 0)) 0))]))))) (gB (Nat.ble (0 + ((1 + 1) + 1)) c10 && Nat.ble (((1 + 1) + 1) + 1) 1048576) (∀ (c14 : Nat), (((1 + 1) + 1) + 1 ≤ c14) → (mB (Nat.ble ((((1 + 1) + 1) + 1) + 1) c14) (gB (Nat.ble (0 + (((1 + 1) + 1) + 1) + 1) c14) (madeK (splitD 8 f) (V.tup [(V.ints .u64 4 (up 3 (andI .u64 ((sh 0 f) 3) 1152921504606846975) (sh 0 f))), (V.sl 10 0 ((((1 + 1) + 1) + 1) + 1) c14)]) [(V.tup [(V.ints .u64 (e + 8) f)]), (V.ints .u64 4 (up 3 (andI .u64 ((sh 0 f) 3) 1152921504606846975) (sh 0 f))), (V.ints .u64 4 (up 3 (andI .u64 ((sh 0 f) 3) 1152921504606846975) (sh 0 f))), (V.ints .u64 1 (up 0 (orI .u64 (shrI .u64 (f 3) 60) (shlI .u64 (f 4) 4)) (fun _ => 0))), (V.ints .u64 c1 (ap 0 1 (fun _ => 0) (up 0 (orI .u64 (shrI .u64 (f 3) 60) (shlI .u64 (f 4) 4)) (fun _ => 0)) 0)), (V.ints .u64 1 (up 0 (orI .u64 (shrI .u64 (f 4) 60) (shlI .u64 (f 5) 4)) (fun _ => 0))), (V.ints .u64 c2 (ap 1 1 (sh 0 (ap 0 1 (fun _ => 0) (up 0 (orI .u64 (shrI .u64 (f 3) 60) (shlI .u64 (f 4) 4)) (fun _ => 0)) 0)) (up 0 (orI .u64 (shrI .u64 (f 4) 60) (shlI .u64 (f 5) 4)) (fun _ => 0)) 0)), (V.ints .u64 1 (up 0 (orI .u64 (shrI .u64 (f 5) 60) (shlI .u64 (f 6) 4)) (fun _ => 0))), (V.ints .u64 c10 (ap (1 + 1) 1 (sh 0 (ap 1 1 (sh 0 (ap 0 1 (fun _ => 0) (up 0 (orI .u64 (shrI .u64 (f 3) 60) (shlI .u64 (f 4) 4)) (fun _ => 0)) 0)) (up 0 (orI .u64 (shrI .u64 (f 4) 60) (shlI .u64 (f 5) 4)) (fun _ => 0)) 0)) (up 0 (orI .u64 (shrI .u64 (f 5) 60) (shlI .u64 (f 6) 4)) (fun _ => 0)) 0)), (V.ints .u64 1 (up 0 (orI .u64 (shrI .u64 (f 6) 60) (shlI .u64 (f 7) 4)) (fun _ => 0))), (V.ints .u64 c14 (spl (0 + (((1 + 1) + 1) + 1)) 1 c14 (up 0 (shrI .u64 (f 7) 60) (fun _ => 0)) (ap ((1 + 1) + 1) 1 (sh 0 (ap (1 + 1) 1 (sh 0 (ap 1 1 (sh 0 (ap 0 1 (fun _ => 0) (up 0 (orI .u64 (shrI .u64 (f 3) 60) (shlI .u64 (f 4) 4)) (fun _ => 0)) 0)) (up 0 (orI .u64 (shrI .u64 (f 4) 60) (shlI .u64 (f 5) 4)) (fun _ => 0)) 0)) (up 0 (orI .u64 (shrI .u64 (f 5) 60) (shlI .u64 (f 6) 4)) (fun _ => 0)) 0)) (up 0 (orI .u64 (shrI .u64 (f 6) 60) (shlI .u64 (f 7) 4)) (fun _ => 0)) 0))), (V.ints .u64 1 (up 0 (shrI .u64 (f 7) 60) (fun _ => 0)))])) (gB (Nat.ble (0 + (((1 + 1) + 1) + 1)) c14 && Nat.ble ((((1 + 1) + 1) + 1) + 1) 1048576) (∀ (c16 : Nat), ((((1 + 1) + 1) + 1) + 1 ≤ c16) → (madeK (splitD 8 f) (V.tup [(V.ints .u64 4 (up 3 (andI .u64 ((sh 0 f) 3) 1152921504606846975) (sh 0 f))), (V.sl 12 0 ((((1 + 1) + 1) + 1) + 1) c16)]) [(V.tup [(V.ints .u64 (e + 8) f)]), (V.ints .u64 4 (up 3 (andI .u64 ((sh 0 f) 3) 1152921504606846975) (sh 0 f))), (V.ints .u64 4 (up 3 (andI .u64 ((sh 0 f) 3) 1152921504606846975) (sh 0 f))), (V.ints .u64 1 (up 0 (orI .u64 (shrI .u64 (f 3) 60) (shlI .u64 (f 4) 4)) (fun _ => 0))), (V.ints .u64 c1 (ap 0 1 (fun _ => 0) (up 0 (orI .u64 (shrI .u64 (f 3) 60) (shlI .u64 (f 4) 4)) (fun _ => 0)) 0)), (V.ints .u64 1 (up 0 (orI .u64 (shrI .u64 (f 4) 60) (shlI .u64 (f 5) 4)) (fun _ => 0))), (V.ints .u64 c2 (ap 1 1 (sh 0 (ap 0 1 (fun _ => 0) (up 0 (orI .u64 (shrI .u64 (f 3) 60) (shlI .u64 (f 4) 4)) (fun _ => 0)) 0)) (up 0 (orI .u64 (shrI .u64 (f 4) 60) (shlI .u64 (f 5) 4)) (fun _ => 0)) 0)), (V.ints .u64 1 (up 0 (orI .u64 (shrI .u64 (f 5) 60) (shlI .u64 (f 6) 4)) (fun _ => 0))), (V.ints .u64 c10 (ap (1 + 1) 1 (sh 0 (ap 1 1 (sh 0 (ap 0 1 (fun _ => 0) (up 0 (orI .u64 (shrI .u64 (f 3) 60) (shlI .u64 (f 4) 4)) (fun _ => 0)) 0)) (up 0 (orI .u64 (shrI .u64 (f 4) 60) (shlI .u64 (f 5) 4)) (fun _ => 0)) 0)) (up 0 (orI .u64 (shrI .u64 (f 5) 60) (shlI .u64 (f 6) 4)) (fun _ => 0)) 0)), (V.ints .u64 1 (up 0 (orI .u64 (shrI .u64 (f 6) 60) (shlI .u64 (f 7) 4)) (fun _ => 0))), (V.ints .u64 c14 (ap ((1 + 1) + 1) 1 (sh 0 (ap (1 + 1) 1 (sh 0 (ap 1 1 (sh 0 (ap 0 1 (fun _ => 0) (up 0 (orI .u64 (shrI .u64 (f 3) 60) (shlI .u64 (f 4) 4)) (fun _ => 0)) 0)) (up 0 (orI .u64 (shrI .u64 (f 4) 60) (shlI .u64 (f 5) 4)) (fun _ => 0)) 0)) (up 0 (orI .u64 (shrI .u64 (f 5) 60) (shlI .u64 (f 6) 4)) (fun _ => 0)) 0)) (up 0 (orI .u64 (shrI .u64 (f 6) 60) (shlI .u64 (f 7) 4)) (fun _ => 0)) 0)), (V.ints .u64 1 (up 0 (shrI .u64 (f 7) 60) (fun _ => 0))), (V.ints .u64 c16 (ap (((1 + 1) + 1) + 1) 1 (sh 0 (ap ((1 + 1) + 1) 1 (sh 0 (ap (1 + 1) 1 (sh 0 (ap 1 1 (sh 0 (ap 0 1 (fun _ => 0) (up 0 (orI .u64 (shrI .u64 (f 3) 60) (shlI .u64 (f 4) 4)) (fun _ => 0)) 0)) (up 0 (orI .u64 (shrI .u64 (f 4) 60) (shlI .u64 (f 5) 4)) (fun _ => 0)) 0)) (up 0 (orI .u64 (shrI .u64 (f 5) 60) (shlI .u64 (f 6) 4)) (fun _ => 0)) 0)) (up 0 (orI .u64 (shrI .u64 (f 6) 60) (shlI .u64 (f 7) 4)) (fun _ => 0)) 0)) (up 0 (shrI .u64 (f 7) 60) (fun _ => 0)) 0))])))))))))))))) := by kernel_rfl
  rw [h]
  intro c1 h0
  refine mBt (fun h1 => ?_) (fun _ => ?_)
  · have h1 := bleT.1 h1
    refine gm (by first | exact bleT.2 (by omega) | (rw [Bool.and_eq_true]; exact ⟨bleT.2 (by omega), bleT.2 (by omega)⟩)) ?_
    refine mBt (fun h2 => ?_) (fun _ => ?_)
    · have h2 := bleT.1 h2
      refine gm (by first | exact bleT.2 (by omega) | (rw [Bool.and_eq_true]; exact ⟨bleT.2 (by omega), bleT.2 (by omega)⟩)) ?_
      refine mBt (fun h3 => ?_) (fun _ => ?_)
      · have h3 := bleT.1 h3
        refine gm (by first | exact bleT.2 (by omega) | (rw [Bool.and_eq_true]; exact ⟨bleT.2 (by omega), bleT.2 (by omega)⟩)) ?_
        refine mBt (fun h4 => ?_) (fun _ => ?_)
        · have h4 := bleT.1 h4
          refine gm (by first | exact bleT.2 (by omega) | (rw [Bool.and_eq_true]; exact ⟨bleT.2 (by omega), bleT.2 (by omega)⟩)) ?_
          refine ⟨4, c1, (spl (0 + (((1 + 1) + 1) + 1)) 1 c1 (up 0 (shrI .u64 (f 7) 60) (fun _ => 0)) (spl (0 + ((1 + 1) + 1)) 1 c1 (up 0 (orI .u64 (shrI .u64 (f 6) 60) (shlI .u64 (f 7) 4)) (fun _ => 0)) (spl (0 + (1 + 1)) 1 c1 (up 0 (orI .u64 (shrI .u64 (f 5) 60) (shlI .u64 (f 6) 4)) (fun _ => 0)) (spl (0 + 1) 1 c1 (up 0 (orI .u64 (shrI .u64 (f 4) 60) (shlI .u64 (f 5) 4)) (fun _ => 0)) (ap 0 1 (fun _ => 0) (up 0 (orI .u64 (shrI .u64 (f 3) 60) (shlI .u64 (f 4) 4)) (fun _ => 0)) 0))))), fun μ => by kernel_rfl, by kernel_rfl, by show 5 ≤ _; omega, fun j hj => ?_⟩
          have hj : j < 5 := hj
          have hj : j = 0 ∨ j = 1 ∨ j = 2 ∨ j = 3 ∨ j = 4 := by omega
          rcases hj with rfl | rfl | rfl | rfl | rfl <;> (show _ = _; kernel_rfl)
        · refine gm (by first | exact bleT.2 (by omega) | (rw [Bool.and_eq_true]; exact ⟨bleT.2 (by omega), bleT.2 (by omega)⟩)) ?_
          intro c5 h4
          refine ⟨9, c5, (ap (((1 + 1) + 1) + 1) 1 (sh 0 (spl (0 + ((1 + 1) + 1)) 1 c1 (up 0 (orI .u64 (shrI .u64 (f 6) 60) (shlI .u64 (f 7) 4)) (fun _ => 0)) (spl (0 + (1 + 1)) 1 c1 (up 0 (orI .u64 (shrI .u64 (f 5) 60) (shlI .u64 (f 6) 4)) (fun _ => 0)) (spl (0 + 1) 1 c1 (up 0 (orI .u64 (shrI .u64 (f 4) 60) (shlI .u64 (f 5) 4)) (fun _ => 0)) (ap 0 1 (fun _ => 0) (up 0 (orI .u64 (shrI .u64 (f 3) 60) (shlI .u64 (f 4) 4)) (fun _ => 0)) 0))))) (up 0 (shrI .u64 (f 7) 60) (fun _ => 0)) 0), fun μ => by kernel_rfl, by kernel_rfl, by show 5 ≤ _; omega, fun j hj => ?_⟩
          have hj : j < 5 := hj
          have hj : j = 0 ∨ j = 1 ∨ j = 2 ∨ j = 3 ∨ j = 4 := by omega
          rcases hj with rfl | rfl | rfl | rfl | rfl <;> (show _ = _; kernel_rfl)
      · refine gm (by first | exact bleT.2 (by omega) | (rw [Bool.and_eq_true]; exact ⟨bleT.2 (by omega), bleT.2 (by omega)⟩)) ?_
        intro c4 h3
        refine mBt (fun h4 => ?_) (fun _ => ?_)
        · have h4 := bleT.1 h4
          refine gm (by first | exact bleT.2 (by omega) | (rw [Bool.and_eq_true]; exact ⟨bleT.2 (by omega), bleT.2 (by omega)⟩)) ?_
          refine ⟨8, c4, (spl (0 + (((1 + 1) + 1) + 1)) 1 c4 (up 0 (shrI .u64 (f 7) 60) (fun _ => 0)) (ap ((1 + 1) + 1) 1 (sh 0 (spl (0 + (1 + 1)) 1 c1 (up 0 (orI .u64 (shrI .u64 (f 5) 60) (shlI .u64 (f 6) 4)) (fun _ => 0)) (spl (0 + 1) 1 c1 (up 0 (orI .u64 (shrI .u64 (f 4) 60) (shlI .u64 (f 5) 4)) (fun _ => 0)) (ap 0 1 (fun _ => 0) (up 0 (orI .u64 (shrI .u64 (f 3) 60) (shlI .u64 (f 4) 4)) (fun _ => 0)) 0)))) (up 0 (orI .u64 (shrI .u64 (f 6) 60) (shlI .u64 (f 7) 4)) (fun _ => 0)) 0)), fun μ => by kernel_rfl, by kernel_rfl, by show 5 ≤ _; omega, fun j hj => ?_⟩
          have hj : j < 5 := hj
          have hj : j = 0 ∨ j = 1 ∨ j = 2 ∨ j = 3 ∨ j = 4 := by omega
          rcases hj with rfl | rfl | rfl | rfl | rfl <;> (show _ = _; kernel_rfl)
        · refine gm (by first | exact bleT.2 (by omega) | (rw [Bool.and_eq_true]; exact ⟨bleT.2 (by omega), bleT.2 (by omega)⟩)) ?_
          intro c6 h4
          refine ⟨10, c6, (ap (((1 + 1) + 1) + 1) 1 (sh 0 (ap ((1 + 1) + 1) 1 (sh 0 (spl (0 + (1 + 1)) 1 c1 (up 0 (orI .u64 (shrI .u64 (f 5) 60) (shlI .u64 (f 6) 4)) (fun _ => 0)) (spl (0 + 1) 1 c1 (up 0 (orI .u64 (shrI .u64 (f 4) 60) (shlI .u64 (f 5) 4)) (fun _ => 0)) (ap 0 1 (fun _ => 0) (up 0 (orI .u64 (shrI .u64 (f 3) 60) (shlI .u64 (f 4) 4)) (fun _ => 0)) 0)))) (up 0 (orI .u64 (shrI .u64 (f 6) 60) (shlI .u64 (f 7) 4)) (fun _ => 0)) 0)) (up 0 (shrI .u64 (f 7) 60) (fun _ => 0)) 0), fun μ => by kernel_rfl, by kernel_rfl, by show 5 ≤ _; omega, fun j hj => ?_⟩
          have hj : j < 5 := hj
          have hj : j = 0 ∨ j = 1 ∨ j = 2 ∨ j = 3 ∨ j = 4 := by omega
          rcases hj with rfl | rfl | rfl | rfl | rfl <;> (show _ = _; kernel_rfl)
    · refine gm (by first | exact bleT.2 (by omega) | (rw [Bool.and_eq_true]; exact ⟨bleT.2 (by omega), bleT.2 (by omega)⟩)) ?_
      intro c3 h2
      refine mBt (fun h3 => ?_) (fun _ => ?_)
      · have h3 := bleT.1 h3
        refine gm (by first | exact bleT.2 (by omega) | (rw [Bool.and_eq_true]; exact ⟨bleT.2 (by omega), bleT.2 (by omega)⟩)) ?_
        refine mBt (fun h4 => ?_) (fun _ => ?_)
        · have h4 := bleT.1 h4
          refine gm (by first | exact bleT.2 (by omega) | (rw [Bool.and_eq_true]; exact ⟨bleT.2 (by omega), bleT.2 (by omega)⟩)) ?_
          refine ⟨7, c3, (spl (0 + (((1 + 1) + 1) + 1)) 1 c3 (up 0 (shrI .u64 (f 7) 60) (fun _ => 0)) (spl (0 + ((1 + 1) + 1)) 1 c3 (up 0 (orI .u64 (shrI .u64 (f 6) 60) (shlI .u64 (f 7) 4)) (fun _ => 0)) (ap (1 + 1) 1 (sh 0 (spl (0 + 1) 1 c1 (up 0 (orI .u64 (shrI .u64 (f 4) 60) (shlI .u64 (f 5) 4)) (fun _ => 0)) (ap 0 1 (fun _ => 0) (up 0 (orI .u64 (shrI .u64 (f 3) 60) (shlI .u64 (f 4) 4)) (fun _ => 0)) 0))) (up 0 (orI .u64 (shrI .u64 (f 5) 60) (shlI .u64 (f 6) 4)) (fun _ => 0)) 0))), fun μ => by kernel_rfl, by kernel_rfl, by show 5 ≤ _; omega, fun j hj => ?_⟩
          have hj : j < 5 := hj
          have hj : j = 0 ∨ j = 1 ∨ j = 2 ∨ j = 3 ∨ j = 4 := by omega
          rcases hj with rfl | rfl | rfl | rfl | rfl <;> (show _ = _; kernel_rfl)
        · refine gm (by first | exact bleT.2 (by omega) | (rw [Bool.and_eq_true]; exact ⟨bleT.2 (by omega), bleT.2 (by omega)⟩)) ?_
          intro c8 h4
          refine ⟨10, c8, (ap (((1 + 1) + 1) + 1) 1 (sh 0 (spl (0 + ((1 + 1) + 1)) 1 c3 (up 0 (orI .u64 (shrI .u64 (f 6) 60) (shlI .u64 (f 7) 4)) (fun _ => 0)) (ap (1 + 1) 1 (sh 0 (spl (0 + 1) 1 c1 (up 0 (orI .u64 (shrI .u64 (f 4) 60) (shlI .u64 (f 5) 4)) (fun _ => 0)) (ap 0 1 (fun _ => 0) (up 0 (orI .u64 (shrI .u64 (f 3) 60) (shlI .u64 (f 4) 4)) (fun _ => 0)) 0))) (up 0 (orI .u64 (shrI .u64 (f 5) 60) (shlI .u64 (f 6) 4)) (fun _ => 0)) 0))) (up 0 (shrI .u64 (f 7) 60) (fun _ => 0)) 0), fun μ => by kernel_rfl, by kernel_rfl, by show 5 ≤ _; omega, fun j hj => ?_⟩
          have hj : j < 5 := hj
          have hj : j = 0 ∨ j = 1 ∨ j = 2 ∨ j = 3 ∨ j = 4 := by omega
          rcases hj with rfl | rfl | rfl | rfl | rfl <;> (show _ = _; kernel_rfl)
      · refine gm (by first | exact bleT.2 (by omega) | (rw [Bool.and_eq_true]; exact ⟨bleT.2 (by omega), bleT.2 (by omega)⟩)) ?_
        intro c7 h3
        refine mBt (fun h4 => ?_) (fun _ => ?_)
        · have h4 := bleT.1 h4
          refine gm (by first | exact bleT.2 (by omega) | (rw [Bool.and_eq_true]; exact ⟨bleT.2 (by omega), bleT.2 (by omega)⟩)) ?_
          refine ⟨9, c7, (spl (0 + (((1 + 1) + 1) + 1)) 1 c7 (up 0 (shrI .u64 (f 7) 60) (fun _ => 0)) (ap ((1 + 1) + 1) 1 (sh 0 (ap (1 + 1) 1 (sh 0 (spl (0 + 1) 1 c1 (up 0 (orI .u64 (shrI .u64 (f 4) 60) (shlI .u64 (f 5) 4)) (fun _ => 0)) (ap 0 1 (fun _ => 0) (up 0 (orI .u64 (shrI .u64 (f 3) 60) (shlI .u64 (f 4) 4)) (fun _ => 0)) 0))) (up 0 (orI .u64 (shrI .u64 (f 5) 60) (shlI .u64 (f 6) 4)) (fun _ => 0)) 0)) (up 0 (orI .u64 (shrI .u64 (f 6) 60) (shlI .u64 (f 7) 4)) (fun _ => 0)) 0)), fun μ => by kernel_rfl, by kernel_rfl, by show 5 ≤ _; omega, fun j hj => ?_⟩
          have hj : j < 5 := hj
          have hj : j = 0 ∨ j = 1 ∨ j = 2 ∨ j = 3 ∨ j = 4 := by omega
          rcases hj with rfl | rfl | rfl | rfl | rfl <;> (show _ = _; kernel_rfl)
        · refine gm (by first | exact bleT.2 (by omega) | (rw [Bool.and_eq_true]; exact ⟨bleT.2 (by omega), bleT.2 (by omega)⟩)) ?_
          intro c9 h4
          refine ⟨11, c9, (ap (((1 + 1) + 1) + 1) 1 (sh 0 (ap ((1 + 1) + 1) 1 (sh 0 (ap (1 + 1) 1 (sh 0 (spl (0 + 1) 1 c1 (up 0 (orI .u64 (shrI .u64 (f 4) 60) (shlI .u64 (f 5) 4)) (fun _ => 0)) (ap 0 1 (fun _ => 0) (up 0 (orI .u64 (shrI .u64 (f 3) 60) (shlI .u64 (f 4) 4)) (fun _ => 0)) 0))) (up 0 (orI .u64 (shrI .u64 (f 5) 60) (shlI .u64 (f 6) 4)) (fun _ => 0)) 0)) (up 0 (orI .u64 (shrI .u64 (f 6) 60) (shlI .u64 (f 7) 4)) (fun _ => 0)) 0)) (up 0 (shrI .u64 (f 7) 60) (fun _ => 0)) 0), fun μ => by kernel_rfl, by kernel_rfl, by show 5 ≤ _; omega, fun j hj => ?_⟩
          have hj : j < 5 := hj
          have hj : j = 0 ∨ j = 1 ∨ j = 2 ∨ j = 3 ∨ j = 4 := by omega
          rcases hj with rfl | rfl | rfl | rfl | rfl <;> (show _ = _; kernel_rfl)
  · refine gm (by first | exact bleT.2 (by omega) | (rw [Bool.and_eq_true]; exact ⟨bleT.2 (by omega), bleT.2 (by omega)⟩)) ?_
    intro c2 h1
    refine mBt (fun h2 => ?_) (fun _ => ?_)
    · have h2 := bleT.1 h2
      refine gm (by first | exact bleT.2 (by omega) | (rw [Bool.and_eq_true]; exact ⟨bleT.2 (by omega), bleT.2 (by omega)⟩)) ?_
      refine mBt (fun h3 => ?_) (fun _ => ?_)
      · have h3 := bleT.1 h3
        refine gm (by first | exact bleT.2 (by omega) | (rw [Bool.and_eq_true]; exact ⟨bleT.2 (by omega), bleT.2 (by omega)⟩)) ?_
        refine mBt (fun h4 => ?_) (fun _ => ?_)
        · have h4 := bleT.1 h4
          refine gm (by first | exact bleT.2 (by omega) | (rw [Bool.and_eq_true]; exact ⟨bleT.2 (by omega), bleT.2 (by omega)⟩)) ?_
          refine ⟨6, c2, (spl (0 + (((1 + 1) + 1) + 1)) 1 c2 (up 0 (shrI .u64 (f 7) 60) (fun _ => 0)) (spl (0 + ((1 + 1) + 1)) 1 c2 (up 0 (orI .u64 (shrI .u64 (f 6) 60) (shlI .u64 (f 7) 4)) (fun _ => 0)) (spl (0 + (1 + 1)) 1 c2 (up 0 (orI .u64 (shrI .u64 (f 5) 60) (shlI .u64 (f 6) 4)) (fun _ => 0)) (ap 1 1 (sh 0 (ap 0 1 (fun _ => 0) (up 0 (orI .u64 (shrI .u64 (f 3) 60) (shlI .u64 (f 4) 4)) (fun _ => 0)) 0)) (up 0 (orI .u64 (shrI .u64 (f 4) 60) (shlI .u64 (f 5) 4)) (fun _ => 0)) 0)))), fun μ => by kernel_rfl, by kernel_rfl, by show 5 ≤ _; omega, fun j hj => ?_⟩
          have hj : j < 5 := hj
          have hj : j = 0 ∨ j = 1 ∨ j = 2 ∨ j = 3 ∨ j = 4 := by omega
          rcases hj with rfl | rfl | rfl | rfl | rfl <;> (show _ = _; kernel_rfl)
        · refine gm (by first | exact bleT.2 (by omega) | (rw [Bool.and_eq_true]; exact ⟨bleT.2 (by omega), bleT.2 (by omega)⟩)) ?_
          intro c12 h4
          refine ⟨10, c12, (ap (((1 + 1) + 1) + 1) 1 (sh 0 (spl (0 + ((1 + 1) + 1)) 1 c2 (up 0 (orI .u64 (shrI .u64 (f 6) 60) (shlI .u64 (f 7) 4)) (fun _ => 0)) (spl (0 + (1 + 1)) 1 c2 (up 0 (orI .u64 (shrI .u64 (f 5) 60) (shlI .u64 (f 6) 4)) (fun _ => 0)) (ap 1 1 (sh 0 (ap 0 1 (fun _ => 0) (up 0 (orI .u64 (shrI .u64 (f 3) 60) (shlI .u64 (f 4) 4)) (fun _ => 0)) 0)) (up 0 (orI .u64 (shrI .u64 (f 4) 60) (shlI .u64 (f 5) 4)) (fun _ => 0)) 0)))) (up 0 (shrI .u64 (f 7) 60) (fun _ => 0)) 0), fun μ => by kernel_rfl, by kernel_rfl, by show 5 ≤ _; omega, fun j hj => ?_⟩
          have hj : j < 5 := hj
          have hj : j = 0 ∨ j = 1 ∨ j = 2 ∨ j = 3 ∨ j = 4 := by omega
          rcases hj with rfl | rfl | rfl | rfl | rfl <;> (show _ = _; kernel_rfl)
      · refine gm (by first | exact bleT.2 (by omega) | (rw [Bool.and_eq_true]; exact ⟨bleT.2 (by omega), bleT.2 (by omega)⟩)) ?_
        intro c11 h3
        refine mBt (fun h4 => ?_) (fun _ => ?_)
        · have h4 := bleT.1 h4
          refine gm (by first | exact bleT.2 (by omega) | (rw [Bool.and_eq_true]; exact ⟨bleT.2 (by omega), bleT.2 (by omega)⟩)) ?_
          refine ⟨9, c11, (spl (0 + (((1 + 1) + 1) + 1)) 1 c11 (up 0 (shrI .u64 (f 7) 60) (fun _ => 0)) (ap ((1 + 1) + 1) 1 (sh 0 (spl (0 + (1 + 1)) 1 c2 (up 0 (orI .u64 (shrI .u64 (f 5) 60) (shlI .u64 (f 6) 4)) (fun _ => 0)) (ap 1 1 (sh 0 (ap 0 1 (fun _ => 0) (up 0 (orI .u64 (shrI .u64 (f 3) 60) (shlI .u64 (f 4) 4)) (fun _ => 0)) 0)) (up 0 (orI .u64 (shrI .u64 (f 4) 60) (shlI .u64 (f 5) 4)) (fun _ => 0)) 0))) (up 0 (orI .u64 (shrI .u64 (f 6) 60) (shlI .u64 (f 7) 4)) (fun _ => 0)) 0)), fun μ => by kernel_rfl, by kernel_rfl, by show 5 ≤ _; omega, fun j hj => ?_⟩
          have hj : j < 5 := hj
          have hj : j = 0 ∨ j = 1 ∨ j = 2 ∨ j = 3 ∨ j = 4 := by omega
          rcases hj with rfl | rfl | rfl | rfl | rfl <;> (show _ = _; kernel_rfl)
        · refine gm (by first | exact bleT.2 (by omega) | (rw [Bool.and_eq_true]; exact ⟨bleT.2 (by omega), bleT.2 (by omega)⟩)) ?_
          intro c13 h4
          refine ⟨11, c13, (ap (((1 + 1) + 1) + 1) 1 (sh 0 (ap ((1 + 1) + 1) 1 (sh 0 (spl (0 + (1 + 1)) 1 c2 (up 0 (orI .u64 (shrI .u64 (f 5) 60) (shlI .u64 (f 6) 4)) (fun _ => 0)) (ap 1 1 (sh 0 (ap 0 1 (fun _ => 0) (up 0 (orI .u64 (shrI .u64 (f 3) 60) (shlI .u64 (f 4) 4)) (fun _ => 0)) 0)) (up 0 (orI .u64 (shrI .u64 (f 4) 60) (shlI .u64 (f 5) 4)) (fun _ => 0)) 0))) (up 0 (orI .u64 (shrI .u64 (f 6) 60) (shlI .u64 (f 7) 4)) (fun _ => 0)) 0)) (up 0 (shrI .u64 (f 7) 60) (fun _ => 0)) 0), fun μ => by kernel_rfl, by kernel_rfl, by show 5 ≤ _; omega, fun j hj => ?_⟩
          have hj : j < 5 := hj
          have hj : j = 0 ∨ j = 1 ∨ j = 2 ∨ j = 3 ∨ j = 4 := by omega
          rcases hj with rfl | rfl | rfl | rfl | rfl <;> (show _ = _; kernel_rfl)
    · refine gm (by first | exact bleT.2 (by omega) | (rw [Bool.and_eq_true]; exact ⟨bleT.2 (by omega), bleT.2 (by omega)⟩)) ?_
      intro c10 h2
      refine mBt (fun h3 => ?_) (fun _ => ?_)
      · have h3 := bleT.1 h3
        refine gm (by first | exact bleT.2 (by omega) | (rw [Bool.and_eq_true]; exact ⟨bleT.2 (by omega), bleT.2 (by omega)⟩)) ?_
        refine mBt (fun h4 => ?_) (fun _ => ?_)
        · have h4 := bleT.1 h4
          refine gm (by first | exact bleT.2 (by omega) | (rw [Bool.and_eq_true]; exact ⟨bleT.2 (by omega), bleT.2 (by omega)⟩)) ?_
          refine ⟨8, c10, (spl (0 + (((1 + 1) + 1) + 1)) 1 c10 (up 0 (shrI .u64 (f 7) 60) (fun _ => 0)) (spl (0 + ((1 + 1) + 1)) 1 c10 (up 0 (orI .u64 (shrI .u64 (f 6) 60) (shlI .u64 (f 7) 4)) (fun _ => 0)) (ap (1 + 1) 1 (sh 0 (ap 1 1 (sh 0 (ap 0 1 (fun _ => 0) (up 0 (orI .u64 (shrI .u64 (f 3) 60) (shlI .u64 (f 4) 4)) (fun _ => 0)) 0)) (up 0 (orI .u64 (shrI .u64 (f 4) 60) (shlI .u64 (f 5) 4)) (fun _ => 0)) 0)) (up 0 (orI .u64 (shrI .u64 (f 5) 60) (shlI .u64 (f 6) 4)) (fun _ => 0)) 0))), fun μ => by kernel_rfl, by kernel_rfl, by show 5 ≤ _; omega, fun j hj => ?_⟩
          have hj : j < 5 := hj
          have hj : j = 0 ∨ j = 1 ∨ j = 2 ∨ j = 3 ∨ j = 4 := by omega
          rcases hj with rfl | rfl | rfl | rfl | rfl <;> (show _ = _; kernel_rfl)
        · refine gm (by first | exact bleT.2 (by omega) | (rw [Bool.and_eq_true]; exact ⟨bleT.2 (by omega), bleT.2 (by omega)⟩)) ?_
          intro c15 h4
          refine ⟨11, c15, (ap (((1 + 1) + 1) + 1) 1 (sh 0 (spl (0 + ((1 + 1) + 1)) 1 c10 (up 0 (orI .u64 (shrI .u64 (f 6) 60) (shlI .u64 (f 7) 4)) (fun _ => 0)) (ap (1 + 1) 1 (sh 0 (ap 1 1 (sh 0 (ap 0 1 (fun _ => 0) (up 0 (orI .u64 (shrI .u64 (f 3) 60) (shlI .u64 (f 4) 4)) (fun _ => 0)) 0)) (up 0 (orI .u64 (shrI .u64 (f 4) 60) (shlI .u64 (f 5) 4)) (fun _ => 0)) 0)) (up 0 (orI .u64 (shrI .u64 (f 5) 60) (shlI .u64 (f 6) 4)) (fun _ => 0)) 0))) (up 0 (shrI .u64 (f 7) 60) (fun _ => 0)) 0), fun μ => by kernel_rfl, by kernel_rfl, by show 5 ≤ _; omega, fun j hj => ?_⟩
          have hj : j < 5 := hj
          have hj : j = 0 ∨ j = 1 ∨ j = 2 ∨ j = 3 ∨ j = 4 := by omega
          rcases hj with rfl | rfl | rfl | rfl | rfl <;> (show _ = _; kernel_rfl)
      · refine gm (by first | exact bleT.2 (by omega) | (rw [Bool.and_eq_true]; exact ⟨bleT.2 (by omega), bleT.2 (by omega)⟩)) ?_
        intro c14 h3
        refine mBt (fun h4 => ?_) (fun _ => ?_)
        · have h4 := bleT.1 h4
          refine gm (by first | exact bleT.2 (by omega) | (rw [Bool.and_eq_true]; exact ⟨bleT.2 (by omega), bleT.2 (by omega)⟩)) ?_
          refine ⟨10, c14, (spl (0 + (((1 + 1) + 1) + 1)) 1 c14 (up 0 (shrI .u64 (f 7) 60) (fun _ => 0)) (ap ((1 + 1) + 1) 1 (sh 0 (ap (1 + 1) 1 (sh 0 (ap 1 1 (sh 0 (ap 0 1 (fun _ => 0) (up 0 (orI .u64 (shrI .u64 (f 3) 60) (shlI .u64 (f 4) 4)) (fun _ => 0)) 0)) (up 0 (orI .u64 (shrI .u64 (f 4) 60) (shlI .u64 (f 5) 4)) (fun _ => 0)) 0)) (up 0 (orI .u64 (shrI .u64 (f 5) 60) (shlI .u64 (f 6) 4)) (fun _ => 0)) 0)) (up 0 (orI .u64 (shrI .u64 (f 6) 60) (shlI .u64 (f 7) 4)) (fun _ => 0)) 0)), fun μ => by kernel_rfl, by kernel_rfl, by show 5 ≤ _; omega, fun j hj => ?_⟩
          have hj : j < 5 := hj
          have hj : j = 0 ∨ j = 1 ∨ j = 2 ∨ j = 3 ∨ j = 4 := by omega
          rcases hj with rfl | rfl | rfl | rfl | rfl <;> (show _ = _; kernel_rfl)
        · refine gm (by first | exact bleT.2 (by omega) | (rw [Bool.and_eq_true]; exact ⟨bleT.2 (by omega), bleT.2 (by omega)⟩)) ?_
          intro c16 h4
          refine ⟨12, c16, (ap (((1 + 1) + 1) + 1) 1 (sh 0 (ap ((1 + 1) + 1) 1 (sh 0 (ap (1 + 1) 1 (sh 0 (ap 1 1 (sh 0 (ap 0 1 (fun _ => 0) (up 0 (orI .u64 (shrI .u64 (f 3) 60) (shlI .u64 (f 4) 4)) (fun _ => 0)) 0)) (up 0 (orI .u64 (shrI .u64 (f 4) 60) (shlI .u64 (f 5) 4)) (fun _ => 0)) 0)) (up 0 (orI .u64 (shrI .u64 (f 5) 60) (shlI .u64 (f 6) 4)) (fun _ => 0)) 0)) (up 0 (orI .u64 (shrI .u64 (f 6) 60) (shlI .u64 (f 7) 4)) (fun _ => 0)) 0)) (up 0 (shrI .u64 (f 7) 60) (fun _ => 0)) 0), fun μ => by kernel_rfl, by kernel_rfl, by show 5 ≤ _; omega, fun j hj => ?_⟩
          have hj : j < 5 := hj
          have hj : j = 0 ∨ j = 1 ∨ j = 2 ∨ j = 3 ∨ j = 4 := by omega
          rcases hj with rfl | rfl | rfl | rfl | rfl <;> (show _ = _; kernel_rfl)
theorem split_a {n : Nat} (h4 : 4 ≤ n) (h8 : n ≤ 8) (e c : Nat) (f : Nat → Int) : awp Tryd.prog p52 noG 300 (body Tryd.f62) (ends Tryd.prog Tryd.f62 fun v m => madeK (splitD n f) v m) ⟨[V.sl 0 0 n c] ++ List.replicate 44 V.un, [V.tup [V.ints .u64 (e + n) f]]⟩ := by
  have : n = 4 ∨ n = 5 ∨ n = 6 ∨ n = 7 ∨ n = 8 := by omega
  rcases this with rfl | rfl | rfl | rfl | rfl
  · exact split4 e c f
  · exact split5 e c f
  · exact split6 e c f
  · exact split7 e c f
  · exact split8 e c f
def g62 : List V → List V → Option (Bool × Made) := fun vs m => match views [] vs m with
  | some ([.sl 0 0 n _], [.tup [.ints .u64 N f]]) => some (Nat.ble n N && (Nat.ble 4 n && Nat.ble n 8), splitD n f)
  | _ => none
def g62r : List V → List V → Option (Bool × V) := fun vs m => match views [] vs m with
  | some ([.sl 0 0 2 _], [.tup [.ints .u64 N f]]) => some (Nat.ble 2 N, splitR 2 f)
  | some ([.sl 0 0 3 _], [.tup [.ints .u64 N f]]) => some (Nat.ble 3 N, splitR 3 f)
  | _ => none
theorem g62r_ok (vs m : List V) (v : V) (h : g62r vs m = some (true, v)) : v.flat = true ∧ ∀ μ B w0 w, Under B w0 → Rel μ B w0 m w → PureAt Tryd.prog 62 (vs.map (V.den μ)).toArray (v.den μ) w := by
  unfold g62r at h
  split at h
  · rename_i c N f hv
    simp only [Option.some.injEq, Prod.mk.injEq] at h
    obtain ⟨h1, rfl⟩ := h
    have h1 := bleT.1 h1
    obtain ⟨e, rfl⟩ : ∃ e, N = e + 2 := ⟨N - 2, by omega⟩
    exact ⟨rfl, reads_ok (fn := Tryd.f62) (N := 300) (n := 44) hM p52_ok (noG_ok _) Tryd.func62 (by kernel_rfl) (by kernel_rfl) hv rfl (split2 e c f) (by kernel_rfl)⟩
  · rename_i c N f hv
    simp only [Option.some.injEq, Prod.mk.injEq] at h
    obtain ⟨h1, rfl⟩ := h
    have h1 := bleT.1 h1
    obtain ⟨e, rfl⟩ : ∃ e, N = e + 3 := ⟨N - 3, by omega⟩
    exact ⟨rfl, reads_ok (fn := Tryd.f62) (N := 300) (n := 44) hM p52_ok (noG_ok _) Tryd.func62 (by kernel_rfl) (by kernel_rfl) hv rfl (split3 e c f) (by kernel_rfl)⟩
  · cases h
theorem g62r_grow (vs m : List V) (z : V) (r : Bool × V) (h : g62r vs m = some r) : g62r vs (m ++ [z]) = some r := by
  unfold g62r at h ⊢
  cases hv : views [] vs m with
  | none => rw [hv] at h; cases h
  | some p => rw [hv] at h; rw [views_grow hv]; exact h
def p62 : Orc := extM 62 g62r p52
theorem p62_ok : OrcOK Tryd.prog p62 := extM_ok p52_ok g62r_ok g62r_grow
def G62 : GOrc := mkG 62 g62 noG
theorem G62_ok : GOrcOK Tryd.prog G62 := by
  refine mkG_ok (noG_ok _) fun vs m d h K hK => ?_
  unfold g62 at h
  split at h
  · rename_i n c N f hv
    simp only [Option.some.injEq, Prod.mk.injEq, Bool.and_eq_true] at h
    obtain ⟨⟨h1, h2, h3⟩, rfl⟩ := h
    have h1 := bleT.1 h1; have h2 := bleT.1 h2; have h3 := bleT.1 h3
    obtain ⟨e, rfl⟩ : ∃ e, N = e + n := ⟨N - n, by omega⟩
    exact makes_awp (fn := Tryd.f62) (N := 300) (n := 44) hM p52_ok (noG_ok _) Tryd.func62 (by kernel_rfl) (by kernel_rfl) hv (fun μ μ' i i' cap hi => by simp [splitD, V.den, V.dens, hi]) (fun ρ i cap => by simp [splitD, V.ren, V.rens]) (split_a h2 h3 e c f) (by kernel_rfl) hK
  · cases h
end Go.Proofs.YtnoehjibponofaaDoor

/-
  times, reduce: a number folded at 2^252 four times. Conditions: none.
-/
namespace Go.Proofs.YtnoehjibponofaaDoor
open Go.Ev
theorem hide_ex {α : Type} (a : α) : ∃ f : α, f = a := ⟨a, rfl⟩
/- The same by names that are not unfolded. -/
noncomputable def u4O : (Nat → Int) → Bool := Classical.choose (hide_ex u4)
theorem u4O_eq : u4O = u4 := Classical.choose_spec (hide_ex u4)
noncomputable def plusO : (Nat → Int) → (Nat → Int) → Nat → Int := Classical.choose (hide_ex plusF)
theorem plusO_eq : plusO = plusF := Classical.choose_spec (hide_ex plusF)
noncomputable def minusO : (Nat → Int) → (Nat → Int) → Nat → Int := Classical.choose (hide_ex minusF)
theorem minusO_eq : minusO = minusF := Classical.choose_spec (hide_ex minusF)
noncomputable def pcO : (Nat → Int) → (Nat → Int) → Int := Classical.choose (hide_ex fun x y => pc x y 4)
theorem pcO_eq : pcO = fun x y => pc x y 4 := Classical.choose_spec (hide_ex fun x y => pc x y 4)
noncomputable def bcO : (Nat → Int) → (Nat → Int) → Int := Classical.choose (hide_ex fun x y => bc x y 4)
theorem bcO_eq : bcO = fun x y => bc x y 4 := Classical.choose_spec (hide_ex fun x y => bc x y 4)
noncomputable def belO : (Nat → Int) → (Nat → Int) → Nat → Int := Classical.choose (hide_ex fun o x => belowR o 16 x)
theorem belO_eq : belO = fun o x => belowR o 16 x := Classical.choose_spec (hide_ex fun o x => belowR o 16 x)
noncomputable def g50O : List V → Option (Bool × V) := fun | [.ints .u64 4 x, .ints .u64 4 y] => some (u4O x && u4O y, .tup [.ints .u64 4 (plusO x y), .int .u64 (pcO x y)]) | _ => none
theorem g50O_eq : g50O = g50 := by
  funext vs
  unfold g50O g50
  simp only [u4O_eq, plusO_eq, pcO_eq]
  kernel_rfl
noncomputable def g43O : List V → Option (Bool × V) := fun | [.ints .u64 4 x, .ints .u64 4 y] => some (true, .tup [.ints .u64 4 (minusO x y), .int .u64 (bcO x y)]) | _ => none
theorem g43O_eq : g43O = g43 := by
  funext vs
  unfold g43O g43
  simp only [minusO_eq, bcO_eq]
  kernel_rfl
noncomputable def g52O : List V → List V → Option (Bool × V) := fun vs m => match views [2] vs m with
  | some ([.ints .u64 4 x], [.tup [.fn 2, .ints .u64 4 o]]) => some (u4O x && eqN 4 o ordF, .ints .u64 4 (belO o x))
  | _ => none
theorem g52O_eq : g52O = g52 := by
  funext vs m
  unfold g52O g52
  simp only [u4O_eq, belO_eq]
  kernel_rfl
noncomputable def q50 : Orc := ext 50 g50O p62
theorem q50_ok : OrcOK Tryd.prog q50 := by unfold q50; rw [g50O_eq]; exact ext_ok p62_ok g50_ok
noncomputable def q43 : Orc := ext 43 g43O q50
theorem q43_ok : OrcOK Tryd.prog q43 := by unfold q43; rw [g43O_eq]; exact ext_ok q50_ok g43_ok
noncomputable def q52 : Orc := extM 52 g52O q43
theorem q52_ok : OrcOK Tryd.prog q52 := by unfold q52; rw [g52O_eq]; exact extM_ok q43_ok g52_ok g52_grow
def tl (p : Int × Int) (o c : Int) : Int := aS (aS p.2 o 0) c 0
def th (p : Int × Int) (o c : Int) : Int := addI .u64 (addI .u64 p.1 (aC p.2 o 0)) (aC (aS p.2 o 0) c 0)
/-- A word times k words, added to what stands from word i on; the carry. -/
def tin (a : Int) (g : Nat → Int) (i : Nat) (hh : Nat → Int) : Nat → (Nat → Int) × Int
  | 0 => (hh, 0)
  | k + 1 => (up (i + k) (tl (mul64 a (g k)) ((tin a g i hh k).1 (i + k)) (tin a g i hh k).2) (tin a g i hh k).1, th (mul64 a (g k)) ((tin a g i hh k).1 (i + k)) (tin a g i hh k).2)
/-- The product of i words and n words. -/
def timesR (f g : Nat → Int) (n : Nat) : Nat → (Nat → Int)
  | 0 => fun _ => 0
  | i + 1 => up (i + n) (tin (f i) g i (timesR f g n i) n).2 (tin (f i) g i (timesR f g n i) n).1
/-- L less 2^252. -/
def restF : Nat → Int := up 1 1503914060200516822 (up 0 6346243789798364141 (fun _ => 0))
def Z0 : Nat → Int := fun _ => 0
noncomputable def fold (S : Nat → Int) (off n : Nat) (x : Nat → Int) : Nat → Int := spl off 4 8 (plusO (sh off S) (lowF n x)) S
def nx (n : Nat) (x h : Nat → Int) : Nat → Int := timesR (apx (n - 3) (hiF n x) h) restF 2 (n - 3)
noncomputable def G47 : GOrc := inl Tryd.prog q52 300 47 Tryd.f47 (inl Tryd.prog q52 300 63 Tryd.f63 G62)
theorem G47_ok : GOrcOK Tryd.prog G47 := inl_ok hM q52_ok (inl_ok hM q52_ok G62_ok Tryd.func63 (by kernel_rfl) (by kernel_rfl)) Tryd.func47 (by kernel_rfl) (by kernel_rfl)
/-- What is left to be brought below L: x0 .. x3: what is folded. -/
noncomputable def redS (f x1 x2 x3 : Nat → Int) (n0 n1 n2 n3 : Nat) : Nat → Int := fold (fold (fold (fold Z0 0 n0 f) 4 n1 x1) 0 n2 x2) 4 n3 x3
noncomputable def redM (o S : Nat → Int) : Nat → Int := minusO (plusO (sh 0 S) (plusO o o)) (sh 4 S)
theorem red4_t (e c : Nat) (o f : Nat → Int) (r : V) : awp Tryd.prog q52 G47 300 (body Tryd.f40) (ends Tryd.prog Tryd.f40 fun v _ => okV r v) ⟨[V.sl 1 0 4 c] ++ List.replicate 55 V.un, [V.tup [V.fn 2, V.ints .u64 4 o], V.tup [V.ints .u64 (e + 4) f]]⟩ = (∀ (_e0 : Nat) (h0 : Nat → Int), (gB (u4O (sh 0 Z0) && u4O (lowF 4 f)) (gB (u4O (sh 4 (fold Z0 0 4 f)) && u4O (lowF 3 (nx 4 f h0))) (gB (u4O (sh 0 (fold (fold Z0 0 4 f) 4 3 (nx 4 f h0))) && u4O (lowF 2 Z0)) (gB (u4O (sh 4 (fold (fold (fold Z0 0 4 f) 4 3 (nx 4 f h0)) 0 2 Z0)) && u4O (lowF 2 Z0)) (gB (u4O o && u4O o) (gB (u4O (sh 0 (fold (fold (fold (fold Z0 0 4 f) 4 3 (nx 4 f h0)) 0 2 Z0) 4 2 Z0)) && u4O (plusO o o)) (gB (u4O (redM o (fold (fold (fold (fold Z0 0 4 f) 4 3 (nx 4 f h0)) 0 2 Z0) 4 2 Z0)) && eqN 4 o ordF) (okV r (V.ints .u64 4 (belO o (redM o (fold (fold (fold (fold Z0 0 4 f) 4 3 (nx 4 f h0)) 0 2 Z0) 4 2 Z0))))))))))))) := by kernel_rfl
theorem red8_t (e c : Nat) (o f : Nat → Int) (r : V) : awp Tryd.prog q52 G47 300 (body Tryd.f40) (ends Tryd.prog Tryd.f40 fun v _ => okV r v) ⟨[V.sl 1 0 8 c] ++ List.replicate 55 V.un, [V.tup [V.fn 2, V.ints .u64 4 o], V.tup [V.ints .u64 (e + 8) f]]⟩ = (∀ (_e0 : Nat) (h0 : Nat → Int), (gB (u4O (sh 0 Z0) && u4O (lowF 8 f)) (∀ (_e1 : Nat) (h1 : Nat → Int), (gB (u4O (sh 4 (fold Z0 0 8 f)) && u4O (lowF 7 (nx 8 f h0))) (∀ (_e2 : Nat) (h2 : Nat → Int), (gB (u4O (sh 0 (fold (fold Z0 0 8 f) 4 7 (nx 8 f h0))) && u4O (lowF 6 (nx 7 (nx 8 f h0) h1))) (∀ (_e3 : Nat) (h3 : Nat → Int), (gB (u4O (sh 4 (fold (fold (fold Z0 0 8 f) 4 7 (nx 8 f h0)) 0 6 (nx 7 (nx 8 f h0) h1))) && u4O (lowF 5 (nx 6 (nx 7 (nx 8 f h0) h1) h2))) (gB (u4O o && u4O o) (gB (u4O (sh 0 (fold (fold (fold (fold Z0 0 8 f) 4 7 (nx 8 f h0)) 0 6 (nx 7 (nx 8 f h0) h1)) 4 5 (nx 6 (nx 7 (nx 8 f h0) h1) h2))) && u4O (plusO o o)) (gB (u4O (redM o (fold (fold (fold (fold Z0 0 8 f) 4 7 (nx 8 f h0)) 0 6 (nx 7 (nx 8 f h0) h1)) 4 5 (nx 6 (nx 7 (nx 8 f h0) h1) h2))) && eqN 4 o ordF) (okV r (V.ints .u64 4 (belO o (redM o (fold (fold (fold (fold Z0 0 8 f) 4 7 (nx 8 f h0)) 0 6 (nx 7 (nx 8 f h0) h1)) 4 5 (nx 6 (nx 7 (nx 8 f h0) h1) h2))))))))))))))))) := by kernel_rfl
end Go.Proofs.YtnoehjibponofaaDoor

/-
  times and split as numbers. Conditions: none.
-/
namespace Go.Proofs.YtnoehjibponofaaDoor
open Go.Ev
def U1 (a : Int) : Prop := 0 ≤ a ∧ a < 18446744073709551616
theorem mul_le' {a b A B : Int} (ha : 0 ≤ a) (hb : 0 ≤ b) (hA : a ≤ A) (hB : b ≤ B) : 0 ≤ a * b ∧ a * b ≤ A * B :=
  ⟨Int.mul_nonneg ha hb, Int.mul_le_mul hA hB hb (by omega)⟩
theorem and32 (a : Int) : andI .u64 a 4294967295 = a % 4294967296 := and_mask a 32 (by omega)
theorem shr32 (a : Int) : shrI .u64 a 32 = a / 4294967296 := shrU a 32 (by omega)
theorem sm (a : Int) (h0 : 0 ≤ a) (h1 : a < 18446744073709551616) : a % 18446744073709551616 = a := Int.emod_eq_of_lt h0 h1
theorem mul64_v {a b : Int} (ha : U1 a) (hb : U1 b) : (mul64 a b).1 * 18446744073709551616 + (mul64 a b).2 = a * b ∧ U1 (mul64 a b).1 ∧ U1 (mul64 a b).2 := by
  obtain ⟨a0, a1⟩ := ha; obtain ⟨b0, b1⟩ := hb
  have e : a * b = (a % 4294967296) * (b % 4294967296) + 4294967296 * ((a / 4294967296) * (b % 4294967296) + (a % 4294967296) * (b / 4294967296)) + 18446744073709551616 * ((a / 4294967296) * (b / 4294967296)) := by
    have h1 : a = a % 4294967296 + 4294967296 * (a / 4294967296) := by omega
    have h2 : b = b % 4294967296 + 4294967296 * (b / 4294967296) := by omega
    generalize a % 4294967296 = x0 at *
    generalize a / 4294967296 = x1 at *
    generalize b % 4294967296 = y0 at *
    generalize b / 4294967296 = y1 at *
    subst h1 h2
    grind
  have m00 := mul_le' (a := a % 4294967296) (b := b % 4294967296) (A := 4294967295) (B := 4294967295) (by omega) (by omega) (by omega) (by omega)
  have m10 := mul_le' (a := a / 4294967296) (b := b % 4294967296) (A := 4294967295) (B := 4294967295) (by omega) (by omega) (by omega) (by omega)
  have m01 := mul_le' (a := a % 4294967296) (b := b / 4294967296) (A := 4294967295) (B := 4294967295) (by omega) (by omega) (by omega) (by omega)
  have m11 := mul_le' (a := a / 4294967296) (b := b / 4294967296) (A := 4294967295) (B := 4294967295) (by omega) (by omega) (by omega) (by omega)
  simp only [mul64, addU, mulU, and32, shr32]
  rw [e]
  generalize (a % 4294967296) * (b % 4294967296) = p00 at *
  generalize (a / 4294967296) * (b % 4294967296) = p10 at *
  generalize (a % 4294967296) * (b / 4294967296) = p01 at *
  generalize (a / 4294967296) * (b / 4294967296) = p11 at *
  clear e a0 a1 b0 b1
  rw [sm p00 (by omega) (by omega), sm p10 (by omega) (by omega), sm p01 (by omega) (by omega), sm p11 (by omega) (by omega)]
  rw [sm (p10 + p00 / 4294967296) (by omega) (by omega), sm (p11 + _) (by omega) (by omega), sm ((p10 + p00 / 4294967296) % 4294967296 + p01) (by omega) (by omega), sm (p11 + _ + _) (by omega) (by omega)]
  unfold U1
  refine ⟨?_, ⟨?_, ?_⟩, ⟨?_, ?_⟩⟩ <;> omega
/-- A product, what stands there, the carry: the word that is left, the carry on. -/
theorem tlth_v {a b o c : Int} (ha : U1 a) (hb : U1 b) (ho : U1 o) (hc : U1 c) : tl (mul64 a b) o c + 18446744073709551616 * th (mul64 a b) o c = a * b + o + c ∧ U1 (tl (mul64 a b) o c) ∧ U1 (th (mul64 a b) o c) := by
  obtain ⟨e, ⟨h1, h2⟩, h3, h4⟩ := mul64_v ha hb
  have hm := mul_le' ha.1 hb.1 (show a ≤ 18446744073709551615 by have := ha.2; omega) (show b ≤ 18446744073709551615 by have := hb.2; omega)
  unfold tl th
  generalize a * b = m at *
  generalize (mul64 a b).1 = hi at *
  generalize (mul64 a b).2 = lo at *
  obtain ⟨o1, o2⟩ := ho; obtain ⟨c1, c2⟩ := hc
  obtain ⟨x1, x2, x3, x4⟩ := aw (x := lo) (y := o) (c := 0) h3 o1 (by omega)
  generalize aS lo o 0 = l1 at *
  generalize aC lo o 0 = k1 at *
  obtain ⟨y1, y2, y3, y4⟩ := aw (x := l1) (y := c) (c := 0) x2 c1 (by omega)
  generalize aS l1 c 0 = l2 at *
  generalize aC l1 c 0 = k2 at *
  rw [addU, addU, sm (hi + k1) (by omega) (by omega), sm (hi + k1 + k2) (by omega) (by omega)]
  unfold U1
  omega
/-- n words, as a number. -/
def lvn : Nat → (Nat → Int) → Int
  | 0, _ => 0
  | k + 1, f => lvn k f + f k * 18446744073709551616 ^ k
theorem lvn_congr {f g : Nat → Int} : ∀ {n : Nat}, (∀ j, j < n → f j = g j) → lvn n f = lvn n g
  | 0, _ => rfl
  | n + 1, h => by rw [lvn, lvn, lvn_congr (fun j hj => h j (by omega)), h n (by omega)]
theorem up_same {α : Type} (m : Nat) (v : α) (h : Nat → α) : up m v h m = v := by rw [up_at, if_pos rfl]
theorem up_ne {α : Type} {m j : Nat} (v : α) (h : Nat → α) (hj : j ≠ m) : up m v h j = h j := by rw [up_at, if_neg hj]
theorem lvn_up {n m : Nat} (v : Int) (h : Nat → Int) (hm : n ≤ m) : lvn n (up m v h) = lvn n h := lvn_congr fun j hj => up_ne v h (by omega)
theorem tin_v {a : Int} {g : Nat → Int} (ha : U1 a) (i : Nat) {hh : Nat → Int} (hU : ∀ j, U1 (hh j)) : ∀ (k : Nat), (∀ j, j < k → U1 (g j)) →
    (∀ j, U1 ((tin a g i hh k).1 j)) ∧ U1 (tin a g i hh k).2 ∧ (∀ j, i + k ≤ j → (tin a g i hh k).1 j = hh j) ∧
    lvn (i + k) (tin a g i hh k).1 + (tin a g i hh k).2 * 18446744073709551616 ^ (i + k) = lvn (i + k) hh + a * lvn k g * 18446744073709551616 ^ i
  | 0, _ => by
    refine ⟨hU, ⟨by show (0 : Int) ≤ 0; decide, by show (0 : Int) < _; decide⟩, fun _ _ => rfl, ?_⟩
    simp only [tin, lvn, Nat.add_zero, Int.mul_zero, Int.zero_mul]
  | k + 1, hg => by
    obtain ⟨h1, h2, h3, h4⟩ := tin_v ha i hU k (fun j hj => hg j (by omega))
    obtain ⟨w1, w2, w3⟩ := tlth_v ha (hg k (by omega)) (h1 (i + k)) h2
    simp only [tin]
    generalize tin a g i hh k = r at *
    generalize tl (mul64 a (g k)) (r.1 (i + k)) r.2 = l at *
    generalize th (mul64 a (g k)) (r.1 (i + k)) r.2 = t at *
    refine ⟨fun j => ?_, w3, fun j hj => ?_, ?_⟩
    · by_cases e : j = i + k
      · rw [e, up_same]; exact w2
      · rw [up_ne _ _ e]; exact h1 j
    · rw [up_ne _ _ (by omega)]; exact h3 j (by omega)
    · rw [← Nat.add_assoc, lvn, lvn, up_same, lvn_up _ _ (Nat.le_refl _), lvn, ← h3 (i + k) (Nat.le_refl _)]
      have e1 : (18446744073709551616 : Int) ^ (i + k + 1) = 18446744073709551616 ^ (i + k) * 18446744073709551616 := Int.pow_succ _ _
      have e2 : (18446744073709551616 : Int) ^ (i + k) = 18446744073709551616 ^ i * 18446744073709551616 ^ k := Int.pow_add _ _ _
      rw [e1]
      rw [e2] at h4 ⊢
      generalize (18446744073709551616 : Int) ^ i = P at *
      generalize (18446744073709551616 : Int) ^ k = Q at *
      generalize lvn (i + k) r.1 = X at *
      generalize lvn (i + k) hh = Y at *
      generalize lvn k g = Z at *
      generalize r.1 (i + k) = o at *
      generalize r.2 = c at *
      generalize g k = b at *
      clear w2 w3 h1 h2 h3 hg hU ha
      grind
theorem times_v {f g : Nat → Int} {n : Nat} (hg : ∀ j, j < n → U1 (g j)) : ∀ (i : Nat), (∀ j, j < i → U1 (f j)) →
    (∀ j, U1 (timesR f g n i j)) ∧ lvn (i + n) (timesR f g n i) = lvn i f * lvn n g
  | 0, _ => by
    refine ⟨fun j => ⟨by show (0 : Int) ≤ 0; decide, by show (0 : Int) < _; decide⟩, ?_⟩
    have : ∀ m, lvn m (fun _ => 0) = 0 := by
      intro m
      induction m with
      | zero => rfl
      | succ m ih => rw [lvn, ih]; simp
    simp only [timesR, this, lvn, Int.zero_mul]
  | i + 1, hf => by
    obtain ⟨h1, h2⟩ := times_v hg i (fun j hj => hf j (by omega))
    obtain ⟨t1, t2, t3, t4⟩ := tin_v (hf i (by omega)) i h1 n hg
    simp only [timesR]
    generalize tin (f i) g i (timesR f g n i) n = r at *
    refine ⟨fun j => ?_, ?_⟩
    · by_cases e : j = i + n
      · rw [e, up_same]; exact t2
      · rw [up_ne _ _ e]; exact t1 j
    · rw [show i + 1 + n = i + n + 1 by omega, lvn, lvn, up_same, lvn_up _ _ (Nat.le_refl _), t4, h2, Int.add_mul]
      congr 1
      rw [Int.mul_assoc, Int.mul_assoc, Int.mul_comm (lvn n g)]
theorem times_congr {f f' g : Nat → Int} {n : Nat} : ∀ {i : Nat}, (∀ j, j < i → f j = f' j) → timesR f g n i = timesR f' g n i
  | 0, _ => rfl
  | i + 1, h => by
    simp only [timesR]
    rw [times_congr (fun j hj => h j (by omega)), h i (by omega)]
theorem times_congr2 {f g g' : Nat → Int} {n : Nat} (h : ∀ j, j < n → g j = g' j) : ∀ {i : Nat}, timesR f g n i = timesR f g' n i
  | 0 => rfl
  | i + 1 => by
    have key : ∀ (a : Int) (hh : Nat → Int) k, k ≤ n → tin a g i hh k = tin a g' i hh k := by
      intro a hh k
      induction k with
      | zero => intro _; rfl
      | succ k ih => intro hk; simp only [tin]; rw [ih (by omega), h k (by omega)]
    simp only [timesR]
    rw [times_congr2 h, key _ _ n (Nat.le_refl _)]
end Go.Proofs.YtnoehjibponofaaDoor

/-
  Bits laid side by side; split as numbers. Conditions: none.
-/
namespace Go.Proofs.YtnoehjibponofaaDoor
open Go.Ev
theorem ofInt_nat {a : Int} (h0 : 0 ≤ a) (h1 : a < 18446744073709551616) : (BitVec.ofInt (IntKind.bits .u64) a).toNat = a.toNat := by
  rw [BitVec.toNat_ofInt]
  show (a % 18446744073709551616).toNat = _
  rw [sm a h0 h1]
/-- Bits that do not meet. -/
theorem or_add (a b : Int) (m : Nat) (ha : 0 ≤ a) (ham : a < 2 ^ m) (hb : 0 ≤ b) (h : a + b * 2 ^ m < 18446744073709551616) : orI .u64 a (b * 2 ^ m) = a + b * 2 ^ m := by
  have hp : (0 : Int) < 2 ^ m := by exact_mod_cast Nat.two_pow_pos m
  have hbm : 0 ≤ b * 2 ^ m := Int.mul_nonneg hb (by omega)
  unfold orI bits2
  rw [BitVec.toNat_or, ofInt_nat ha (by omega), ofInt_nat hbm (by omega)]
  have e : (b * 2 ^ m).toNat = 2 ^ m * b.toNat := by
    obtain ⟨B, rfl⟩ := Int.eq_ofNat_of_zero_le hb
    have : ((B : Int) * 2 ^ m) = ((2 ^ m * B : Nat) : Int) := by rw [Int.natCast_mul, Int.mul_comm]; simp
    rw [this, Int.toNat_natCast, Int.toNat_natCast]
  have e2 : a.toNat < 2 ^ m := by
    have : ((2 ^ m : Nat) : Int) = 2 ^ m := by simp
    omega
  rw [e, Nat.or_comm, ← Nat.two_pow_add_eq_or_of_lt e2]
  have e3 : ((2 ^ m * b.toNat + a.toNat : Nat) : Int) = a + b * 2 ^ m := by rw [← e]; omega
  rw [e3, wrap_u64, sm _ (by omega) h]
theorem or_shl4 {a b : Int} (ha : 0 ≤ a) (ha1 : a < 16) : orI .u64 a (shlI .u64 b 4) = a + 16 * (b % 1152921504606846976) := by
  have e : shlI .u64 b 4 = (b % 1152921504606846976) * 2 ^ 4 := by
    show shlI .u64 b ((4 : Nat) : Int) = _
    rw [shlU b 4 (by omega)]; omega
  rw [e, or_add a _ 4 ha (by omega) (by omega) (by omega)]
  omega
theorem shr60 (a : Int) : shrI .u64 a 60 = a / 1152921504606846976 := shrU a 60 (by omega)
theorem and60 (a : Int) : andI .u64 a 1152921504606846975 = a % 1152921504606846976 := and_mask a 60 (by omega)
theorem hi_last {n j : Nat} (h : ¬ j + 4 < n) (x : Nat → Int) : hiF n x j = x (j + 3) / 1152921504606846976 := by
  unfold hiF
  rw [ff bltT h, cond_false, shr60]
theorem hi_mid {n j : Nat} (h : j + 4 < n) {x : Nat → Int} (h3 : U1 (x (j + 3))) (h4 : U1 (x (j + 4))) : hiF n x j = x (j + 3) / 1152921504606846976 + 16 * (x (j + 4) % 1152921504606846976) := by
  unfold hiF
  rw [bltT.2 h, cond_true, shr60]
  obtain ⟨a, b⟩ := h3; obtain ⟨c, d⟩ := h4
  exact or_shl4 (by omega) (by omega)
theorem hi_U {n : Nat} {x : Nat → Int} (hx : ∀ j, j < n → U1 (x j)) : ∀ j, j + 3 < n → U1 (hiF n x j) := by
  intro j hj
  have h3 := hx (j + 3) hj
  by_cases h : j + 4 < n
  · have h4 := hx (j + 4) h
    rw [hi_mid h h3 h4]
    obtain ⟨a, b⟩ := h3; obtain ⟨c, d⟩ := h4
    exact ⟨by omega, by omega⟩
  · rw [hi_last h]
    obtain ⟨a, b⟩ := h3
    exact ⟨by omega, by omega⟩
/-- The first 252 bits. -/
theorem low_v {n : Nat} {x : Nat → Int} (hx : ∀ j, j < n → U1 (x j)) : u4 (lowF n x) = true ∧ 0 ≤ lv4 (lowF n x) ∧ lv4 (lowF n x) < 7237005577332262213973186563042994240829374041602535252466099000494570602496 := by
  have h : ∀ j, j < 3 → U1 (lowF n x j) := by
    intro j hj
    have e : lowF n x j = bif Nat.blt j n then x j else 0 := by
      unfold lowF
      rw [ff beqT (by omega), cond_false]
    rw [e]
    by_cases hjn : j < n
    · rw [bltT.2 hjn, cond_true]; exact hx j hjn
    · rw [ff bltT hjn, cond_false]; exact ⟨by decide, by decide⟩
  have h3 : 0 ≤ lowF n x 3 ∧ lowF n x 3 < 1152921504606846976 := by
    have e : lowF n x 3 = (bif Nat.blt 3 n then x 3 else 0) % 1152921504606846976 := by
      unfold lowF
      rw [beqT.2 rfl, cond_true, and60]
    rw [e]; omega
  obtain ⟨a0, b0⟩ := h 0 (by omega); obtain ⟨a1, b1⟩ := h 1 (by omega); obtain ⟨a2, b2⟩ := h 2 (by omega)
  refine ⟨u4_mk fun j hj => ?_, ?_, ?_⟩
  · have : j = 0 ∨ j = 1 ∨ j = 2 ∨ j = 3 := by omega
    rcases this with rfl | rfl | rfl | rfl
    · exact ⟨a0, b0⟩
    · exact ⟨a1, b1⟩
    · exact ⟨a2, b2⟩
    · exact ⟨h3.1, by omega⟩
  · unfold lv4; omega
  · unfold lv4; omega
theorem low_small {n : Nat} {x : Nat → Int} {j : Nat} (hj : j < 3) (hn : j < n) : lowF n x j = x j := by
  unfold lowF
  rw [ff beqT (by omega), cond_false, bltT.2 hn, cond_true]
theorem low_none {n : Nat} {x : Nat → Int} {j : Nat} (hj : j < 3) (hn : ¬ j < n) : lowF n x j = 0 := by
  unfold lowF
  rw [ff beqT (by omega), cond_false, ff bltT hn, cond_false]
theorem low_3 {n : Nat} {x : Nat → Int} (hn : 3 < n) : lowF n x 3 = x 3 % 1152921504606846976 := by
  unfold lowF
  rw [beqT.2 rfl, cond_true, bltT.2 hn, cond_true, and60]
theorem low_3n {n : Nat} {x : Nat → Int} (hn : ¬ 3 < n) : lowF n x 3 = 0 := by
  unfold lowF
  rw [beqT.2 rfl, cond_true, ff bltT hn, cond_false, and60]; rfl
theorem split_v4 {x : Nat → Int} (hx : ∀ j, j < 4 → U1 (x j)) : lvn 4 x = lv4 (lowF 4 x) + 7237005577332262213973186563042994240829374041602535252466099000494570602496 * lvn 1 (hiF 4 x) := by
  have u0 := hx 0 (by omega)
  have u1 := hx 1 (by omega)
  have u2 := hx 2 (by omega)
  have u3 := hx 3 (by omega)
  simp only [lvn, lv4, Int.reducePow, Nat.reduceAdd, low_small (x := x) (n := 4) (j := 0) (by omega) (by omega), low_small (x := x) (n := 4) (j := 1) (by omega) (by omega), low_small (x := x) (n := 4) (j := 2) (by omega) (by omega), low_3 (x := x) (n := 4) (by omega), hi_last (n := 4) (j := 0) (by omega) x]
  unfold U1 at *
  generalize x 0 = a0 at *
  generalize x 1 = a1 at *
  generalize x 2 = a2 at *
  generalize x 3 = a3 at *
  clear hx
  omega
theorem split_v5 {x : Nat → Int} (hx : ∀ j, j < 5 → U1 (x j)) : lvn 5 x = lv4 (lowF 5 x) + 7237005577332262213973186563042994240829374041602535252466099000494570602496 * lvn 2 (hiF 5 x) := by
  have u0 := hx 0 (by omega)
  have u1 := hx 1 (by omega)
  have u2 := hx 2 (by omega)
  have u3 := hx 3 (by omega)
  have u4 := hx 4 (by omega)
  simp only [lvn, lv4, Int.reducePow, Nat.reduceAdd, low_small (x := x) (n := 5) (j := 0) (by omega) (by omega), low_small (x := x) (n := 5) (j := 1) (by omega) (by omega), low_small (x := x) (n := 5) (j := 2) (by omega) (by omega), low_3 (x := x) (n := 5) (by omega), hi_mid (n := 5) (j := 0) (by omega) u3 u4, hi_last (n := 5) (j := 1) (by omega) x]
  unfold U1 at *
  generalize x 0 = a0 at *
  generalize x 1 = a1 at *
  generalize x 2 = a2 at *
  generalize x 3 = a3 at *
  generalize x 4 = a4 at *
  clear hx
  omega
theorem split_v6 {x : Nat → Int} (hx : ∀ j, j < 6 → U1 (x j)) : lvn 6 x = lv4 (lowF 6 x) + 7237005577332262213973186563042994240829374041602535252466099000494570602496 * lvn 3 (hiF 6 x) := by
  have u0 := hx 0 (by omega)
  have u1 := hx 1 (by omega)
  have u2 := hx 2 (by omega)
  have u3 := hx 3 (by omega)
  have u4 := hx 4 (by omega)
  have u5 := hx 5 (by omega)
  simp only [lvn, lv4, Int.reducePow, Nat.reduceAdd, low_small (x := x) (n := 6) (j := 0) (by omega) (by omega), low_small (x := x) (n := 6) (j := 1) (by omega) (by omega), low_small (x := x) (n := 6) (j := 2) (by omega) (by omega), low_3 (x := x) (n := 6) (by omega), hi_mid (n := 6) (j := 0) (by omega) u3 u4, hi_mid (n := 6) (j := 1) (by omega) u4 u5, hi_last (n := 6) (j := 2) (by omega) x]
  unfold U1 at *
  generalize x 0 = a0 at *
  generalize x 1 = a1 at *
  generalize x 2 = a2 at *
  generalize x 3 = a3 at *
  generalize x 4 = a4 at *
  generalize x 5 = a5 at *
  clear hx
  omega
theorem split_v7 {x : Nat → Int} (hx : ∀ j, j < 7 → U1 (x j)) : lvn 7 x = lv4 (lowF 7 x) + 7237005577332262213973186563042994240829374041602535252466099000494570602496 * lvn 4 (hiF 7 x) := by
  have u0 := hx 0 (by omega)
  have u1 := hx 1 (by omega)
  have u2 := hx 2 (by omega)
  have u3 := hx 3 (by omega)
  have u4 := hx 4 (by omega)
  have u5 := hx 5 (by omega)
  have u6 := hx 6 (by omega)
  simp only [lvn, lv4, Int.reducePow, Nat.reduceAdd, low_small (x := x) (n := 7) (j := 0) (by omega) (by omega), low_small (x := x) (n := 7) (j := 1) (by omega) (by omega), low_small (x := x) (n := 7) (j := 2) (by omega) (by omega), low_3 (x := x) (n := 7) (by omega), hi_mid (n := 7) (j := 0) (by omega) u3 u4, hi_mid (n := 7) (j := 1) (by omega) u4 u5, hi_mid (n := 7) (j := 2) (by omega) u5 u6, hi_last (n := 7) (j := 3) (by omega) x]
  unfold U1 at *
  generalize x 0 = a0 at *
  generalize x 1 = a1 at *
  generalize x 2 = a2 at *
  generalize x 3 = a3 at *
  generalize x 4 = a4 at *
  generalize x 5 = a5 at *
  generalize x 6 = a6 at *
  clear hx
  omega
theorem split_v8 {x : Nat → Int} (hx : ∀ j, j < 8 → U1 (x j)) : lvn 8 x = lv4 (lowF 8 x) + 7237005577332262213973186563042994240829374041602535252466099000494570602496 * lvn 5 (hiF 8 x) := by
  have u0 := hx 0 (by omega)
  have u1 := hx 1 (by omega)
  have u2 := hx 2 (by omega)
  have u3 := hx 3 (by omega)
  have u4 := hx 4 (by omega)
  have u5 := hx 5 (by omega)
  have u6 := hx 6 (by omega)
  have u7 := hx 7 (by omega)
  simp only [lvn, lv4, Int.reducePow, Nat.reduceAdd, low_small (x := x) (n := 8) (j := 0) (by omega) (by omega), low_small (x := x) (n := 8) (j := 1) (by omega) (by omega), low_small (x := x) (n := 8) (j := 2) (by omega) (by omega), low_3 (x := x) (n := 8) (by omega), hi_mid (n := 8) (j := 0) (by omega) u3 u4, hi_mid (n := 8) (j := 1) (by omega) u4 u5, hi_mid (n := 8) (j := 2) (by omega) u5 u6, hi_mid (n := 8) (j := 3) (by omega) u6 u7, hi_last (n := 8) (j := 4) (by omega) x]
  unfold U1 at *
  generalize x 0 = a0 at *
  generalize x 1 = a1 at *
  generalize x 2 = a2 at *
  generalize x 3 = a3 at *
  generalize x 4 = a4 at *
  generalize x 5 = a5 at *
  generalize x 6 = a6 at *
  generalize x 7 = a7 at *
  clear hx
  omega
theorem split_v2 {x : Nat → Int} : lvn 2 x = lv4 (lowF 2 x) := by
  simp only [lvn, lv4, Int.reducePow, low_small (x := x) (n := 2) (j := 0) (by omega) (by omega), low_small (x := x) (n := 2) (j := 1) (by omega) (by omega), low_none (x := x) (n := 2) (j := 2) (by omega) (by omega), low_3n (x := x) (n := 2) (by omega)]
  omega
theorem split_v3 {x : Nat → Int} : lvn 3 x = lv4 (lowF 3 x) := by
  simp only [lvn, lv4, Int.reducePow, low_small (x := x) (n := 3) (j := 0) (by omega) (by omega), low_small (x := x) (n := 3) (j := 1) (by omega) (by omega), low_small (x := x) (n := 3) (j := 2) (by omega) (by omega), low_3n (x := x) (n := 3) (by omega)]
  omega
end Go.Proofs.YtnoehjibponofaaDoor
