/-
  The law Any: what its code asks holds; what is missing once whole has turned the words. Conditions: none.
-/
import Derived.Test.YtomipglebaaagaaRR
namespace Go.Proofs.Ytomipglebaaagaa
open Go.Ev
set_option linter.unusedVariables false
set_option linter.unusedSimpArgs false
def anM (n Ca : Nat) (ga : Nat → Bool) : Prop := (gB (Nat.ble n Ca && Nat.ble n 1100) (mB (Nat.beq (cnO ga n) 0) (gB (Nat.ble n Ca && Nat.ble n 1000) (∀ (e3 : Nat) (ff4 : Nat → Bool), (gB (Nat.ble n (e3 + n) && Nat.ble n 1000) (mB (Nat.beq (cnO (apx n ga ff4) n) 0) (okV (V.bool true) (V.bool true)) (∀ (e5 : Nat) (ff6 : Nat → Int), False))))) (∀ (e1 : Nat) (ff2 : Nat → Int), (gB (Nat.ble n Ca && Nat.ble n 1000) (∀ (e7 : Nat) (ff8 : Nat → Bool), (gB (Nat.ble n (e7 + n) && Nat.ble n 1000) (mB (Nat.beq (cnO (apx n ga ff8) n) 0) False (∀ (e9 : Nat) (ff10 : Nat → Int), (gB (gdS (cnO ga n) (e1 + (cnO ga n)) (cnO (apx n ga ff8) n) (e9 + (cnO (apx n ga ff8) n))) (okV (V.bool true) (V.bool (nmO (cnO ga n) (apx (cnO ga n) (msO ga n) ff2) (cnO (apx n ga ff8) n) (apx (cnO (apx n ga ff8) n) (msO (apx n ga ff8) n) ff10)))))))))))))
theorem anM_ok (n Ca : Nat) (ga : Nat → Bool) (h9 : n ≤ 1000) (hCa : (n + 64) ≤ Ca) : anM n Ca ga := by
  have hz : ∀ (e : Nat → Bool) (j : Nat), j < n → apx n ga e j = ga j := fun e j hj => by rw [apx_at, if_pos hj]
  have hcl := cnO_le ga n
  have hcl2 : ∀ e, cnO (apx n ga e) n = cnO ga n := fun e => cnO_congr (hz e)
  exact (gm (both (bleT.2 (by first | omega | (rw [hcl2]; omega))) (bleT.2 (by first | omega | (rw [hcl2]; omega)))) (mBt (fun h0 => (gm (both (bleT.2 (by first | omega | (rw [hcl2]; omega))) (bleT.2 (by first | omega | (rw [hcl2]; omega)))) (fun e3 ff4 => (gm (both (bleT.2 (by first | omega | (rw [hcl2]; omega))) (bleT.2 (by first | omega | (rw [hcl2]; omega)))) (mBy (by rw [cnO_congr (hz _)]; exact h0) (okV_bool rfl)))))) (fun h0 => (fun e1 ff2 => (gm (both (bleT.2 (by first | omega | (rw [hcl2]; omega))) (bleT.2 (by first | omega | (rw [hcl2]; omega)))) (fun e7 ff8 => (gm (both (bleT.2 (by first | omega | (rw [hcl2]; omega))) (bleT.2 (by first | omega | (rw [hcl2]; omega)))) (mBn (by rw [cnO_congr (hz _)]; exact h0) (fun e9 ff10 => (gm (gdS_t (by first | omega | (rw [hcl2]; omega)) (by first | omega | (rw [hcl2]; omega)) (by first | omega | (rw [hcl2]; omega))) (okV_bool (nm_yes (by rw [cnO_congr (hz _)]) (fun j hj => by rw [apx_at, if_pos hj, apx_at, if_pos (by rw [cnO_congr (hz _)]; exact hj), msO_congr (hz _)])))))))))))))
def anN (Ca : Nat) (ga : Nat → Bool) : Prop := (gB (Nat.ble 0 Ca && Nat.ble 0 1100) (mB (Nat.beq (cnO ga 0) 0) (gB (Nat.ble 0 Ca && Nat.ble 0 1000) (∀ (e3 : Nat) (ff4 : Nat → Bool), (gB (Nat.ble 0 (e3 + 0) && Nat.ble 0 1000) (mB (Nat.beq (cnO (apx 0 ga ff4) 0) 0) (okV (V.bool true) (V.bool true)) (∀ (e5 : Nat) (ff6 : Nat → Int), False))))) (∀ (e1 : Nat) (ff2 : Nat → Int), (gB (Nat.ble 0 Ca && Nat.ble 0 1000) (∀ (e7 : Nat) (ff8 : Nat → Bool), (gB (Nat.ble 0 (e7 + 0) && Nat.ble 0 1000) (mB (Nat.beq (cnO (apx 0 ga ff8) 0) 0) False (∀ (e9 : Nat) (ff10 : Nat → Int), (gB (gdS (cnO ga 0) (e1 + (cnO ga 0)) (cnO (apx 0 ga ff8) 0) (e9 + (cnO (apx 0 ga ff8) 0))) (okV (V.bool true) (V.bool (nmO (cnO ga 0) (apx (cnO ga 0) (msO ga 0) ff2) (cnO (apx 0 ga ff8) 0) (apx (cnO (apx 0 ga ff8) 0) (msO (apx 0 ga ff8) 0) ff10)))))))))))))
theorem anN_ok (Ca : Nat) (ga : Nat → Bool) (hCa : 64 ≤ Ca) : anN Ca ga := by
  have hz : ∀ (e : Nat → Bool) (j : Nat), j < 0 → apx 0 ga e j = ga j := fun e j hj => by rw [apx_at, if_pos hj]
  have hcl := cnO_le ga 0
  have hcl2 : ∀ e, cnO (apx 0 ga e) 0 = cnO ga 0 := fun e => cnO_congr (hz e)
  exact (gm (both (bleT.2 (by first | omega | (rw [hcl2]; omega))) (bleT.2 (by first | omega | (rw [hcl2]; omega)))) (mBy (by rw [cnO_eq]; rfl) (gm (both (bleT.2 (by first | omega | (rw [hcl2]; omega))) (bleT.2 (by first | omega | (rw [hcl2]; omega)))) (fun e3 ff4 => (gm (both (bleT.2 (by first | omega | (rw [hcl2]; omega))) (bleT.2 (by first | omega | (rw [hcl2]; omega)))) (mBy (by rw [cnO_congr (hz _)]; exact (by rw [cnO_eq]; rfl)) (okV_bool rfl)))))))
end Go.Proofs.Ytomipglebaaagaa
