/-
  The document's Missing, Done, Rides. Conditions: none.
-/
import Derived.Test.YtomipglebaaagaaRT
import Derived.Test.YtomipglebaaagaaFvT
namespace Go.Proofs.Ytomipglebaaagaa
open Go.Ev
set_option linter.unusedVariables false
set_option linter.unusedSimpArgs false
abbrev nG : GOrc := noG
theorem nG_ok : GOrcOK Try.prog nG := noG_ok _
def msO1 (f : Nat → Bool) (n : Nat) (v : V) : Prop := cnF f n = 0 ∧ v = .snil
def msO2 (f : Nat → Bool) (n : Nat) (res : Nat → V) (c : V) : Prop := cnF f n ≠ 0 ∧ ∃ cap hh, Has (cnF f n) cap (msF f n) hh ∧ res = (fun id => .sl id 0 (cnF f n) cap) ∧ c = .ints .i64 cap hh
abbrev msK (f : Nat → Bool) (n : Nat) : V → List V → Prop := out0 (msO1 f n) (msO2 f n)
theorem msd_za_s (s r t : Int) (n c xN : Nat) (f : Nat → Bool) (T : List V) : awq Try.prog orc0 nG 1 1200 (dropC 2 (body Try.f26)) (ends Try.prog Try.f26 ((msK f n))) ⟨ovr 24 [3] [V.snil] T, [(V.tup [(V.bools xN f)])]⟩ = ((msK f n) V.snil [(V.tup [(V.bools xN f)])]) := by kernel_rfl
abbrev msd_Ka3 (f : Nat → Bool) (n : Nat) : List V → List V → Prop := OkL Try.prog 1 24 [3] (dropC 2 (body Try.f26)) (ends Try.prog Try.f26 ((msK f n)))
theorem msd_za (s r t : Int) (n c xN : Nat) (f : Nat → Bool) (hq : cnF f n = 0) : (msd_Ka3 f n) [V.snil] [(V.tup [(V.bools xN f)])] := by
  exact okl_all hM orc0_ok nG_ok (N := 1200) (fun T => Eq.mpr (msd_za_s s r t n c xN f T ) (.inl ⟨hq, rfl⟩))
theorem msd_zb_s (s r t : Int) (n c xN : Nat) (f : Nat → Bool) (q cc : Nat) (hh : Nat → Int) (T : List V) : awq Try.prog orc0 nG 1 1200 (dropC 2 (body Try.f26)) (ends Try.prog Try.f26 ((msK f n))) ⟨ovr 24 [3] [(vS 1 q cc)] T, [(V.tup [(V.bools xN f)]), (V.ints .i64 cc hh)]⟩ = ((msK f n) (V.sl 1 0 q cc) [(V.tup [(V.bools xN f)]), (V.ints .i64 cc hh)]) := by kernel_rfl
theorem msd_zb (s r t : Int) (n c xN : Nat) (f : Nat → Bool) (q cc : Nat) (hh : Nat → Int) (hq : q = cnF f n) (hq0 : q ≠ 0) (hH : Has q cc (msF f n) hh) : (msd_Ka3 f n) [(vS 1 q cc)] [(V.tup [(V.bools xN f)]), (V.ints .i64 cc hh)] := by
  exact okl_all hM orc0_ok nG_ok (N := 1200) (fun T => Eq.mpr (msd_zb_s s r t n c xN f q cc hh T ) (by subst hq; exact .inr ⟨1, _, _, ⟨hq0, cc, hh, hH, rfl, rfl⟩, rfl, rfl⟩))
abbrev msd_Kmsdlh (f : Nat → Bool) (n : Nat) (w1 : Nat) : List V → List V → Prop := OkH Try.prog 1 24 [1, 3, 4] (lopC (blkC (dropC 0 (takeC 0 (dropC 1 (body Try.f26)))))) (blkQ 0 (segQ 24 [3] (msd_Ka3 f n) (ends Try.prog Try.f26 ((msK f n))))) w1
abbrev msd_Kmsdl2 (f : Nat → Bool) (n : Nat) (w1 : Nat) : List V → List V → Prop := OkL Try.prog 1 24 [1, 3, 4] (dropC 1 (lopC (blkC (dropC 0 (takeC 0 (dropC 1 (body Try.f26))))))) (segQ 24 [1, 3, 4] (msd_Kmsdlh f n w1) (blkQ 0 (segQ 24 [3] (msd_Ka3 f n) (ends Try.prog Try.f26 ((msK f n))))))
theorem msd_msdlb_s (s r t : Int) (n c xN : Nat) (f : Nat → Bool) (i : Int) (q cc : Nat) (hh : Nat → Int) (T : List V) (k0 k1 : List V → List V → Prop) : awq Try.prog orc0 nG 1 1200 (dropC 1 (lopC (blkC (dropC 0 (takeC 0 (dropC 1 (body Try.f26))))))) (segQ 24 [1, 3, 4] k0 (blkQ 0 (segQ 24 [3] k1 (ends Try.prog Try.f26 ((msK f n)))))) ⟨ovr 24 [1, 3, 4] [(vP 1), (vS 2 q cc), (vI i)] T, [(V.tup [(V.bools xN f)]), (rf s r 0 n c t), (V.ints .i64 cc hh)]⟩ = (k0 [(vP 1), (vS 2 q cc), (vI (addI .i64 i 1))] [(V.tup [(V.bools xN f)]), (rf s r 0 n c t), (V.ints .i64 cc hh)]) := by kernel_rfl
theorem msd_lb (w1 : Nat) (s r t : Int) (n c xN : Nat) (f : Nat → Bool) (i : Int) (q cc : Nat) (hh : Nat → Int) (p : Nat) (hq : q = cnF f (p + 1)) (hq0 : q ≠ 0) (hH : Has q cc (msF f n) hh) (IHb : ∀ (q cc : Nat) (hh : Nat → Int), q = cnF f (p + 1) → q ≠ 0 → Has q cc (msF f n) hh → (msd_Kmsdlh f n w1) [(vP 1), (vS 2 q cc), (vI (addI .i64 i 1))] [(V.tup [(V.bools xN f)]), (rf s r 0 n c t), (V.ints .i64 cc hh)]) : (msd_Kmsdl2 f n w1) [(vP 1), (vS 2 q cc), (vI i)] [(V.tup [(V.bools xN f)]), (rf s r 0 n c t), (V.ints .i64 cc hh)] := by
  exact okl_all hM orc0_ok nG_ok (N := 1200) (fun T => Eq.mpr (msd_msdlb_s s r t n c xN f i q cc hh T (msd_Kmsdlh f n w1) (msd_Ka3 f n)) (IHb q cc hh hq hq0 hH))
theorem msd_msdcb_s (s r t : Int) (n c xN : Nat) (f : Nat → Bool) (i : Int) (q cc : Nat) (hh : Nat → Int) (T : List V) (k0 k1 k2 : List V → List V → Prop) : awq Try.prog orc0 nG 1 1200 (blkC (takeC 0 (dropC 0 (lopC (blkC (dropC 0 (takeC 0 (dropC 1 (body Try.f26))))))))) (blkQ 1 (segQ 24 [1, 3, 4] k0 (segQ 24 [1, 3, 4] k1 (blkQ 0 (segQ 24 [3] k2 (ends Try.prog Try.f26 ((msK f n)))))))) ⟨ovr 24 [1, 3, 4] [(vP 1), (vS 2 q cc), (vI i)] T, [(V.tup [(V.bools xN f)]), (rf s r 0 n c t), (V.ints .i64 cc hh)]⟩ = (gB (decide (0 ≤ i ∧ i < n)) (gB (Nat.blt (0 + (Int.toNat i * 1)) xN) (mB (!(f (0 + (Int.toNat i * 1)))) (mB (Nat.ble (q + 1) cc) (gB (Nat.ble (0 + q + 1) cc) (k0 [(vP 1), (vS 2 (q + 1) cc), (vI i)] [(V.tup [(V.bools xN f)]), (rf s r 0 n c t), (V.ints .i64 cc (spl (0 + q) 1 cc (up 0 (addI .i64 i 1) (fun _ => 0)) hh)), (V.ints .i64 1 (up 0 (addI .i64 i 1) (fun _ => 0)))])) (gB (Nat.ble (0 + q) cc && Nat.ble (q + 1) 1048576) (∀ (c1 : Nat), (q + 1 ≤ c1) → (k0 [(vP 1), (vS 4 (q + 1) c1), (vI i)] [(V.tup [(V.bools xN f)]), (rf s r 0 n c t), (V.ints .i64 cc hh), (V.ints .i64 1 (up 0 (addI .i64 i 1) (fun _ => 0))), (V.ints .i64 c1 (ap q 1 (sh 0 hh) (up 0 (addI .i64 i 1) (fun _ => 0)) 0))])))) (k0 [(vP 1), (vS 2 q cc), (vI i)] [(V.tup [(V.bools xN f)]), (rf s r 0 n c t), (V.ints .i64 cc hh)])))) := by kernel_rfl
abbrev msd_Kmsdc0 (f : Nat → Bool) (n : Nat) (w1 : Nat) : List V → List V → Prop := OkL Try.prog 1 24 [1, 3, 4] (blkC (takeC 0 (dropC 0 (lopC (blkC (dropC 0 (takeC 0 (dropC 1 (body Try.f26))))))))) (blkQ 1 (segQ 24 [1, 3, 4] (msd_Kmsdl2 f n w1) (segQ 24 [1, 3, 4] (msd_Kmsdlh f n w1) (blkQ 0 (segQ 24 [3] (msd_Ka3 f n) (ends Try.prog Try.f26 ((msK f n))))))))
theorem msd_cb (w1 : Nat) (s r t : Int) (n c xN : Nat) (f : Nat → Bool) (i : Int) (q cc : Nat) (hh : Nat → Int) (hxn : n ≤ xN) (h9 : n ≤ 1000) (p : Nat) (hi : i = (p : Int)) (hq : q = cnF f p) (hq0 : q ≠ 0) (hH : Has q cc (msF f n) hh) (hp : p < n) (IHb : ∀ (q cc : Nat) (hh : Nat → Int), q = cnF f (p + 1) → q ≠ 0 → Has q cc (msF f n) hh → (msd_Kmsdlh f n w1) [(vP 1), (vS 2 q cc), (vI (addI .i64 i 1))] [(V.tup [(V.bools xN f)]), (rf s r 0 n c t), (V.ints .i64 cc hh)]) : (msd_Kmsdc0 f n w1) [(vP 1), (vS 2 q cc), (vI i)] [(V.tup [(V.bools xN f)]), (rf s r 0 n c t), (V.ints .i64 cc hh)] := by
  have hx : 0 + (Int.toNat i * 1) = p := by rw [hi]; exact ix p
  have hadd : addI .i64 i 1 = ((p + 1 : Nat) : Int) := by rw [hi]; exact add1_nat p (by omega)
  have hx0 := hx
  have hcl := cn_le f p
  have hvv : f p = false → addI .i64 i 1 = msF f n (cnF f p) := fun e => by rw [hadd]; exact (ms_at e hp).symm
  have hs0 : f p = true → cnF f p = cnF f (p + 1) := fun e => by simp only [cnF, e, cond_true]
  have hs1 : f p = false → q + 1 = cnF f (p + 1) := fun e => by simp only [cnF, e, cond_false, hq]
  exact okl_all hM orc0_ok nG_ok (N := 1200) (fun T => Eq.mpr (msd_msdcb_s s r t n c xN f i q cc hh T (msd_Kmsdl2 f n w1) (msd_Kmsdlh f n w1) (msd_Ka3 f n)) (gm (decide_eq_true (by first | omega | (have := bleT.1 h0; omega) | (have := bleT.1 h1; omega) | (have := hH.1; omega))) (gm (bltT.2 (by first | omega | (have := bleT.1 h0; omega) | (have := bleT.1 h1; omega) | (have := hH.1; omega))) (mBt (fun h0 => (mBt (fun h1 => (gm (bleT.2 (by first | omega | (have := bleT.1 h0; omega) | (have := bleT.1 h1; omega) | (have := hH.1; omega))) (at_gc (ok_gc _ _ _ _) (msd_lb w1 s r t n c xN f i (q + 1) cc (spl (0 + q) 1 cc (up 0 (addI .i64 i 1) (fun _ => 0)) hh) p (hs1 (by have := h0; rw [hx0] at this; simpa using this)) (by first | omega | (have := bleT.1 h0; omega) | (have := bleT.1 h1; omega) | (have := hH.1; omega)) (has_room hH (bleT.1 h1) ((hvv (by have := h0; rw [hx0] at this; simpa using this)).trans (by rw [hq]))) IHb) [0, 1, 2] (by kernel_rfl) (by kernel_rfl) (by kernel_rfl) (fun μ => by kernel_rfl)))) (fun h1 => (gm (both (bleT.2 (by first | omega | (have := bleT.1 h0; omega) | (have := bleT.1 h1; omega) | (have := hH.1; omega))) (bleT.2 (by first | omega | (have := bleT.1 h0; omega) | (have := bleT.1 h1; omega) | (have := hH.1; omega)))) (fun c1 q2 => (at_gc (ok_gc _ _ _ _) (msd_lb w1 s r t n c xN f i (q + 1) c1 (ap q 1 (sh 0 hh) (up 0 (addI .i64 i 1) (fun _ => 0)) 0) p (hs1 (by have := h0; rw [hx0] at this; simpa using this)) (by first | omega | (have := bleT.1 h0; omega) | (have := bleT.1 h1; omega) | (have := hH.1; omega)) (has_grow hH.2 q2 ((hvv (by have := h0; rw [hx0] at this; simpa using this)).trans (by rw [hq]))) IHb) [0, 1, 4] (by kernel_rfl) (by kernel_rfl) (by kernel_rfl) (fun μ => by kernel_rfl))))))) (fun h0 => (msd_lb w1 s r t n c xN f i q cc hh p (hq.trans (hs0 (by have := h0; rw [hx0] at this; simpa using this))) hq0 hH IHb))))))
theorem msd_msdhb_s (s r t : Int) (n c xN : Nat) (f : Nat → Bool) (i : Int) (q cc : Nat) (hh : Nat → Int) (T : List V) (kk k0 k1 : List V → List V → Prop) : awq Try.prog orc0 nG 1 1200 (takeC 0 (lopC (blkC (dropC 0 (takeC 0 (dropC 1 (body Try.f26))))))) (segQ 24 [1, 3, 4] kk (segQ 24 [1, 3, 4] k0 (blkQ 0 (segQ 24 [3] k1 (ends Try.prog Try.f26 ((msK f n))))))) ⟨ovr 24 [1, 3, 4] [(vP 1), (vS 2 q cc), (vI i)] T, [(V.tup [(V.bools xN f)]), (rf s r 0 n c t), (V.ints .i64 cc hh)]⟩ = (mB (decide (i < ((n : Nat) : Int))) (kk [(vP 1), (vS 2 q cc), (vI i)] [(V.tup [(V.bools xN f)]), (rf s r 0 n c t), (V.ints .i64 cc hh)]) (k1 [(vS 2 q cc)] [(V.tup [(V.bools xN f)]), (rf s r 0 n c t), (V.ints .i64 cc hh)])) := by kernel_rfl
abbrev msd_Kmsdl1 (f : Nat → Bool) (n : Nat) (w1 : Nat) : List V → List V → Prop := OkL Try.prog 1 24 [1, 3, 4] (dropC 0 (lopC (blkC (dropC 0 (takeC 0 (dropC 1 (body Try.f26))))))) (segQ 24 [1, 3, 4] (msd_Kmsdlh f n w1) (blkQ 0 (segQ 24 [3] (msd_Ka3 f n) (ends Try.prog Try.f26 ((msK f n))))))
theorem msd_hb (w1 : Nat) (s r t : Int) (n c xN : Nat) (f : Nat → Bool) (i : Int) (q cc : Nat) (hh : Nat → Int) (hxn : n ≤ xN) (h9 : n ≤ 1000) (p : Nat) (hi : i = (p : Int)) (hq : q = cnF f p) (hq0 : q ≠ 0) (hH : Has q cc (msF f n) hh) (hp : p ≤ n) (IHHb : p < n → ∀ (q cc : Nat) (hh : Nat → Int), q = cnF f (p + 1) → q ≠ 0 → Has q cc (msF f n) hh → (msd_Kmsdlh f n w1) [(vP 1), (vS 2 q cc), (vI (addI .i64 i 1))] [(V.tup [(V.bools xN f)]), (rf s r 0 n c t), (V.ints .i64 cc hh)]) : (msd_Kmsdlh f n (w1 + 1)) [(vP 1), (vS 2 q cc), (vI i)] [(V.tup [(V.bools xN f)]), (rf s r 0 n c t), (V.ints .i64 cc hh)] := by
  exact okh_round (okl_seg hM orc0_ok nG_ok (N := 1200) 0 (by kernel_rfl) (show dropC 0 (lopC (blkC (dropC 0 (takeC 0 (dropC 1 (body Try.f26)))))) = (dropC 0 (lopC (blkC (dropC 0 (takeC 0 (dropC 1 (body Try.f26))))))) by kernel_rfl)  (fun T => Eq.mpr (msd_msdhb_s s r t n c xN f i q cc hh T (msd_Kmsdl1 f n w1) (msd_Kmsdlh f n w1) (msd_Ka3 f n)) (mBt (fun h0 => have g0 := of_decide_eq_true h0; (okl_fst (by kernel_rfl) rfl (by kernel_rfl) (okl_blk (id := 1) (d := (blkC (takeC 0 (dropC 0 (lopC (blkC (dropC 0 (takeC 0 (dropC 1 (body Try.f26)))))))))) (by kernel_rfl) (msd_cb w1 s r t n c xN f i q cc hh hxn h9 p hi hq hq0 hH (by omega) (IHHb (by omega)))))) (fun h0 => have g0 := of_decide_eq_false h0; (at_gc (ok_gc _ _ _ _) (msd_zb s r t n c xN f q cc hh (by rw [hq]; congr 1; omega) hq0 hH) [0, 2] (by kernel_rfl) (by kernel_rfl) (by kernel_rfl) (fun μ => by kernel_rfl))))))
theorem msd_hdb (s r t : Int) (n c xN : Nat) (f : Nat → Bool) (hxn : n ≤ xN) (h9 : n ≤ 1000) : ∀ (w1 p : Nat) (i : Int) (q cc : Nat) (hh : Nat → Int), p + w1 = n → i = (p : Int) → q = cnF f p → q ≠ 0 → Has q cc (msF f n) hh → (msd_Kmsdlh f n (w1 + 1)) [(vP 1), (vS 2 q cc), (vI i)] [(V.tup [(V.bools xN f)]), (rf s r 0 n c t), (V.ints .i64 cc hh)]
  | 0, p, i, q, cc, hh, hp, hi, hq, hq0, hH => msd_hb  0 s r t n c xN f i q cc hh hxn h9 p hi hq hq0 hH (by omega) (fun h => absurd h (by omega))
  | w1 + 1, p, i, q, cc, hh, hp, hi, hq, hq0, hH => msd_hb  (w1 + 1) s r t n c xN f i q cc hh hxn h9 p hi hq hq0 hH (by omega) (fun _ q cc hh hq hq0 hH => msd_hdb  s r t n c xN f hxn h9 w1 (p + 1) _ q cc hh (by omega) (by rw [hi]; exact add1_nat p (by omega)) hq hq0 hH)
theorem msd_msdla_s (s r t : Int) (n c xN : Nat) (f : Nat → Bool) (i : Int) (T : List V) (k0 k1 : List V → List V → Prop) : awq Try.prog orc0 nG 1 1200 (dropC 1 (lopC (blkC (dropC 0 (takeC 0 (dropC 1 (body Try.f26))))))) (segQ 24 [1, 3, 4] k0 (blkQ 0 (segQ 24 [3] k1 (ends Try.prog Try.f26 ((msK f n)))))) ⟨ovr 24 [1, 3, 4] [(vP 1), V.snil, (vI i)] T, [(V.tup [(V.bools xN f)]), (rf s r 0 n c t)]⟩ = (k0 [(vP 1), V.snil, (vI (addI .i64 i 1))] [(V.tup [(V.bools xN f)]), (rf s r 0 n c t)]) := by kernel_rfl
theorem msd_la (w1 : Nat) (s r t : Int) (n c xN : Nat) (f : Nat → Bool) (i : Int) (p : Nat) (hq : cnF f (p + 1) = 0) (IHa : cnF f (p + 1) = 0 → (msd_Kmsdlh f n w1) [(vP 1), V.snil, (vI (addI .i64 i 1))] [(V.tup [(V.bools xN f)]), (rf s r 0 n c t)]) (IHb : ∀ (q cc : Nat) (hh : Nat → Int), q = cnF f (p + 1) → q ≠ 0 → Has q cc (msF f n) hh → (msd_Kmsdlh f n w1) [(vP 1), (vS 2 q cc), (vI (addI .i64 i 1))] [(V.tup [(V.bools xN f)]), (rf s r 0 n c t), (V.ints .i64 cc hh)]) : (msd_Kmsdl2 f n w1) [(vP 1), V.snil, (vI i)] [(V.tup [(V.bools xN f)]), (rf s r 0 n c t)] := by
  exact okl_all hM orc0_ok nG_ok (N := 1200) (fun T => Eq.mpr (msd_msdla_s s r t n c xN f i T (msd_Kmsdlh f n w1) (msd_Ka3 f n)) (IHa hq))
theorem msd_msdca_s (s r t : Int) (n c xN : Nat) (f : Nat → Bool) (i : Int) (T : List V) (k0 k1 k2 : List V → List V → Prop) : awq Try.prog orc0 nG 1 1200 (blkC (takeC 0 (dropC 0 (lopC (blkC (dropC 0 (takeC 0 (dropC 1 (body Try.f26))))))))) (blkQ 1 (segQ 24 [1, 3, 4] k0 (segQ 24 [1, 3, 4] k1 (blkQ 0 (segQ 24 [3] k2 (ends Try.prog Try.f26 ((msK f n)))))))) ⟨ovr 24 [1, 3, 4] [(vP 1), V.snil, (vI i)] T, [(V.tup [(V.bools xN f)]), (rf s r 0 n c t)]⟩ = (gB (decide (0 ≤ i ∧ i < n)) (gB (Nat.blt (0 + (Int.toNat i * 1)) xN) (mB (!(f (0 + (Int.toNat i * 1)))) (∀ (c1 : Nat), (1 ≤ c1) → (k0 [(vP 1), (vS 3 1 c1), (vI i)] [(V.tup [(V.bools xN f)]), (rf s r 0 n c t), (V.ints .i64 1 (up 0 (addI .i64 i 1) (fun _ => 0))), (V.ints .i64 c1 (ap 0 1 (fun _ => 0) (up 0 (addI .i64 i 1) (fun _ => 0)) 0))])) (k0 [(vP 1), V.snil, (vI i)] [(V.tup [(V.bools xN f)]), (rf s r 0 n c t)])))) := by kernel_rfl
theorem msd_ca (w1 : Nat) (s r t : Int) (n c xN : Nat) (f : Nat → Bool) (i : Int) (hxn : n ≤ xN) (h9 : n ≤ 1000) (p : Nat) (hi : i = (p : Int)) (hq : cnF f p = 0) (hp : p < n) (IHa : cnF f (p + 1) = 0 → (msd_Kmsdlh f n w1) [(vP 1), V.snil, (vI (addI .i64 i 1))] [(V.tup [(V.bools xN f)]), (rf s r 0 n c t)]) (IHb : ∀ (q cc : Nat) (hh : Nat → Int), q = cnF f (p + 1) → q ≠ 0 → Has q cc (msF f n) hh → (msd_Kmsdlh f n w1) [(vP 1), (vS 2 q cc), (vI (addI .i64 i 1))] [(V.tup [(V.bools xN f)]), (rf s r 0 n c t), (V.ints .i64 cc hh)]) : (msd_Kmsdc0 f n w1) [(vP 1), V.snil, (vI i)] [(V.tup [(V.bools xN f)]), (rf s r 0 n c t)] := by
  have hx : 0 + (Int.toNat i * 1) = p := by rw [hi]; exact ix p
  have hadd : addI .i64 i 1 = ((p + 1 : Nat) : Int) := by rw [hi]; exact add1_nat p (by omega)
  have hx0 := hx
  have hcl := cn_le f p
  have hvv : f p = false → addI .i64 i 1 = msF f n (cnF f p) := fun e => by rw [hadd]; exact (ms_at e hp).symm
  have hs0 : f p = true → cnF f (p + 1) = 0 := fun e => by simp only [cnF, e, cond_true]; exact hq
  have hs1 : f p = false → 1 = cnF f (p + 1) := fun e => by simp only [cnF, e, cond_false, hq]
  exact okl_all hM orc0_ok nG_ok (N := 1200) (fun T => Eq.mpr (msd_msdca_s s r t n c xN f i T (msd_Kmsdl2 f n w1) (msd_Kmsdlh f n w1) (msd_Ka3 f n)) (gm (decide_eq_true (by first | omega | (have := bleT.1 h0; omega) | (have := bleT.1 h1; omega) | (have := hH.1; omega))) (gm (bltT.2 (by first | omega | (have := bleT.1 h0; omega) | (have := bleT.1 h1; omega) | (have := hH.1; omega))) (mBt (fun h0 => (fun c1 q1 => (at_gc (ok_gc _ _ _ _) (msd_lb w1 s r t n c xN f i 1 c1 (ap 0 1 (fun _ => 0) (up 0 (addI .i64 i 1) (fun _ => 0)) 0) p (hs1 (by have := h0; rw [hx0] at this; simpa using this)) (by first | omega | (have := bleT.1 h0; omega) | (have := bleT.1 h1; omega) | (have := hH.1; omega)) (has_first q1 ((hvv (by have := h0; rw [hx0] at this; simpa using this)).trans (by rw [hq]))) IHb) [0, 1, 3] (by kernel_rfl) (by kernel_rfl) (by kernel_rfl) (fun μ => by kernel_rfl)))) (fun h0 => (msd_la w1 s r t n c xN f i p (hs0 (by have := h0; rw [hx0] at this; simpa using this)) IHa IHb))))))
theorem msd_msdha_s (s r t : Int) (n c xN : Nat) (f : Nat → Bool) (i : Int) (T : List V) (kk k0 k1 : List V → List V → Prop) : awq Try.prog orc0 nG 1 1200 (takeC 0 (lopC (blkC (dropC 0 (takeC 0 (dropC 1 (body Try.f26))))))) (segQ 24 [1, 3, 4] kk (segQ 24 [1, 3, 4] k0 (blkQ 0 (segQ 24 [3] k1 (ends Try.prog Try.f26 ((msK f n))))))) ⟨ovr 24 [1, 3, 4] [(vP 1), V.snil, (vI i)] T, [(V.tup [(V.bools xN f)]), (rf s r 0 n c t)]⟩ = (mB (decide (i < ((n : Nat) : Int))) (kk [(vP 1), V.snil, (vI i)] [(V.tup [(V.bools xN f)]), (rf s r 0 n c t)]) (k1 [V.snil] [(V.tup [(V.bools xN f)]), (rf s r 0 n c t)])) := by kernel_rfl
theorem msd_ha (w1 : Nat) (s r t : Int) (n c xN : Nat) (f : Nat → Bool) (i : Int) (hxn : n ≤ xN) (h9 : n ≤ 1000) (p : Nat) (hi : i = (p : Int)) (hq : cnF f p = 0) (hp : p ≤ n) (IHHa : p < n → cnF f (p + 1) = 0 → (msd_Kmsdlh f n w1) [(vP 1), V.snil, (vI (addI .i64 i 1))] [(V.tup [(V.bools xN f)]), (rf s r 0 n c t)]) (IHHb : p < n → ∀ (q cc : Nat) (hh : Nat → Int), q = cnF f (p + 1) → q ≠ 0 → Has q cc (msF f n) hh → (msd_Kmsdlh f n w1) [(vP 1), (vS 2 q cc), (vI (addI .i64 i 1))] [(V.tup [(V.bools xN f)]), (rf s r 0 n c t), (V.ints .i64 cc hh)]) : (msd_Kmsdlh f n (w1 + 1)) [(vP 1), V.snil, (vI i)] [(V.tup [(V.bools xN f)]), (rf s r 0 n c t)] := by
  exact okh_round (okl_seg hM orc0_ok nG_ok (N := 1200) 0 (by kernel_rfl) (show dropC 0 (lopC (blkC (dropC 0 (takeC 0 (dropC 1 (body Try.f26)))))) = (dropC 0 (lopC (blkC (dropC 0 (takeC 0 (dropC 1 (body Try.f26))))))) by kernel_rfl)  (fun T => Eq.mpr (msd_msdha_s s r t n c xN f i T (msd_Kmsdl1 f n w1) (msd_Kmsdlh f n w1) (msd_Ka3 f n)) (mBt (fun h0 => have g0 := of_decide_eq_true h0; (okl_fst (by kernel_rfl) rfl (by kernel_rfl) (okl_blk (id := 1) (d := (blkC (takeC 0 (dropC 0 (lopC (blkC (dropC 0 (takeC 0 (dropC 1 (body Try.f26)))))))))) (by kernel_rfl) (msd_ca w1 s r t n c xN f i hxn h9 p hi hq (by omega) (IHHa (by omega)) (IHHb (by omega)))))) (fun h0 => have g0 := of_decide_eq_false h0; (at_gc (ok_gc _ _ _ _) (msd_za s r t n c xN f (by rw [← hq]; congr 1; omega)) [0] (by kernel_rfl) (by kernel_rfl) (by kernel_rfl) (fun μ => by kernel_rfl))))))
theorem msd_hda (s r t : Int) (n c xN : Nat) (f : Nat → Bool) (hxn : n ≤ xN) (h9 : n ≤ 1000) : ∀ (w1 p : Nat) (i : Int), p + w1 = n → i = (p : Int) → cnF f p = 0 → (msd_Kmsdlh f n (w1 + 1)) [(vP 1), V.snil, (vI i)] [(V.tup [(V.bools xN f)]), (rf s r 0 n c t)]
  | 0, p, i, hp, hi, hq => msd_ha  0 s r t n c xN f i hxn h9 p hi hq (by omega) (fun h => absurd h (by omega)) (fun h => absurd h (by omega))
  | w1 + 1, p, i, hp, hi, hq => msd_ha  (w1 + 1) s r t n c xN f i hxn h9 p hi hq (by omega) (fun _ hq => msd_hda  s r t n c xN f hxn h9 w1 (p + 1) _ (by omega) (by rw [hi]; exact add1_nat p (by omega)) hq) (fun _ q cc hh hq hq0 hH => msd_hdb  s r t n c xN f hxn h9 w1 (p + 1) _ q cc hh (by omega) (by rw [hi]; exact add1_nat p (by omega)) hq hq0 hH)
theorem msd_msdi0_s (s r t : Int) (n c xN : Nat) (f : Nat → Bool) (T : List V) (kk k0 : List V → List V → Prop) : awq Try.prog orc0 nG 1 1200 (takeC 0 (takeC 0 (dropC 1 (body Try.f26)))) (segQ 24 [1, 3, 4] kk (segQ 24 [3] k0 (ends Try.prog Try.f26 ((msK f n))))) ⟨ovr 24 [1, 3] [(vP 1), V.snil] T, [(V.tup [(V.bools xN f)]), (rf s r 0 n c t)]⟩ = (kk [(vP 1), V.snil, (vI 0)] [(V.tup [(V.bools xN f)]), (rf s r 0 n c t)]) := by kernel_rfl
abbrev msd_Kmsds0 (f : Nat → Bool) (n : Nat) : List V → List V → Prop := OkL Try.prog 1 24 [1, 3] (takeC 0 (dropC 1 (body Try.f26))) (segQ 24 [3] (msd_Ka3 f n) (ends Try.prog Try.f26 ((msK f n))))
abbrev msd_Kmsds1 (f : Nat → Bool) (n : Nat) : List V → List V → Prop := OkL Try.prog 1 24 [1, 3, 4] (dropC 0 (takeC 0 (dropC 1 (body Try.f26)))) (segQ 24 [3] (msd_Ka3 f n) (ends Try.prog Try.f26 ((msK f n))))
theorem msd_i0 (s r t : Int) (n c xN : Nat) (f : Nat → Bool) (hxn : n ≤ xN) (h9 : n ≤ 1000) : (msd_Kmsds0 f n) [(vP 1), V.snil] [(V.tup [(V.bools xN f)]), (rf s r 0 n c t)] := by
  exact okl_seg hM orc0_ok nG_ok (N := 1200) 0 (by kernel_rfl) (show dropC 0 (takeC 0 (dropC 1 (body Try.f26))) = (dropC 0 (takeC 0 (dropC 1 (body Try.f26)))) by kernel_rfl) (fun T => Eq.mpr (msd_msdi0_s s r t n c xN f T (msd_Kmsds1 f n) (msd_Ka3 f n)) (okl_blk (id := 0) (d := (blkC (dropC 0 (takeC 0 (dropC 1 (body Try.f26)))))) (by kernel_rfl) (okl_loop (n + 1) (by kernel_rfl) (msd_hda  s r t n c xN f hxn h9 n 0 0 (by omega) rfl rfl))))
theorem msd_s_s (s r t : Int) (n c xN : Nat) (f : Nat → Bool) (T : List V) (kk : List V → List V → Prop) : awq Try.prog orc0 nG 1 1200 (takeC 1 (body Try.f26)) (segQ 24 [1, 3] kk (ends Try.prog Try.f26 ((msK f n)))) ⟨ovr 24 [0] [(rf s r 0 n c t)] T, [(V.tup [(V.bools xN f)])]⟩ = (kk [(vP 1), V.snil] [(V.tup [(V.bools xN f)]), (rf s r 0 n c t)]) := by kernel_rfl
abbrev msd_Ka0 (f : Nat → Bool) (n : Nat) : List V → List V → Prop := OkL Try.prog 1 24 [0] (body Try.f26) (ends Try.prog Try.f26 ((msK f n)))
abbrev msd_Ka2 (f : Nat → Bool) (n : Nat) : List V → List V → Prop := OkL Try.prog 1 24 [1, 3] (dropC 1 (body Try.f26)) (ends Try.prog Try.f26 ((msK f n)))
theorem msd_all (s r t : Int) (n c xN : Nat) (f : Nat → Bool) (hxn : n ≤ xN) (h9 : n ≤ 1000) : (msd_Ka0 f n) [(rf s r 0 n c t)] [(V.tup [(V.bools xN f)])] := by
  exact okl_seg hM orc0_ok nG_ok (N := 1200) 1 (by kernel_rfl) (show dropC 1 (body Try.f26) = (dropC 1 (body Try.f26)) by kernel_rfl) (fun T => Eq.mpr (msd_s_s s r t n c xN f T (msd_Ka2 f n)) (okl_fst (by kernel_rfl) rfl (by kernel_rfl) (msd_i0  s r t n c xN f hxn h9)))
abbrev nlK : V → List V → Prop := out0 (fun v => v = .snil) (fun _ _ => False)
theorem msn_s_s (s r t : Int) (T : List V) : awq Try.prog orc0 nG 0 1200 (body Try.f26) (ends Try.prog Try.f26 (nlK)) ⟨ovr 24 [0] [(V.agg [(V.int .i64 s), (V.int .i64 r), V.snil, (V.int .i64 t)])] T, []⟩ = (nlK V.snil [(V.agg [(V.int .i64 s), (V.int .i64 r), V.snil, (V.int .i64 t)])]) := by kernel_rfl
abbrev msn_Ka0 : List V → List V → Prop := OkL Try.prog 0 24 [0] (body Try.f26) (ends Try.prog Try.f26 (nlK))
theorem msn_all (s r t : Int) : msn_Ka0 [(V.agg [(V.int .i64 s), (V.int .i64 r), V.snil, (V.int .i64 t)])] [] := by
  exact okl_all hM orc0_ok nG_ok (N := 1200) (fun T => Eq.mpr (msn_s_s s r t T ) (.inl rfl))
theorem ms_names (k cap : Nat) : Names (fun id => .sl id 0 k cap) := ⟨fun μ μ' i i' hi => by simp [V.den, hi], fun ρ i => rfl⟩
noncomputable def G26 (G : GOrc) : GOrc := extG 26 (fun vs m K => match views [] vs m with
  | some ([.agg [.int .i64 s, .int .i64 r, .sl 0 0 n c, .int .i64 t]], [.tup [.bools xN f]]) => gB (Nat.ble n xN && Nat.ble n 1000) (mB (Nat.beq (cnO f n) 0) (K .snil m) (∀ e hh, K (.sl m.length 0 (cnO f n) (e + cnO f n)) (m ++ [.ints .i64 (e + cnO f n) (apx (cnO f n) (msO f n) hh)])))
  | some ([.agg [.int .i64 s, .int .i64 r, .snil, .int .i64 t]], []) => K .snil m
  | _ => False) G
theorem G26_ok {G : GOrc} (hG : GOrcOK Try.prog G) : GOrcOK Try.prog (G26 G) := by
  refine extG_ok hG fun vs m K h => ?_
  split at h
  · rename_i s r n c t xN f hv
    obtain ⟨hg, h⟩ := gB_t h
    simp only [Bool.and_eq_true] at hg
    obtain ⟨k1, k2⟩ := mB_t h
    refine outs_okl Try.func26 (by kernel_rfl) (by kernel_rfl) hv (O1 := msO1 f n) (O2 := msO2 f n) (fun r h => ?_) (fun res c h => ?_) (msd_all s r t n c xN f (bleT.1 hg.1) (bleT.1 hg.2)) (Nat.le_of_ble_eq_true (by kernel_rfl)) (by kernel_rfl) rfl (fun r h => ?_) (fun res c h => ?_)
    · obtain ⟨_, rfl⟩ := h; exact ⟨rfl, fun _ => rfl⟩
    · obtain ⟨_, cap, hh, _, rfl, rfl⟩ := h; exact ⟨ms_names _ _, plain_ints _ _ _⟩
    · obtain ⟨h, rfl⟩ := h; exact k1 (by rw [cnO_eq, h]; rfl)
    · obtain ⟨h, cap, hh, hH, rfl, rfl⟩ := h
      have := k2 (by rw [cnO_eq]; exact ff beqT h) (cap - cnO f n) hh
      rw [cnO_eq, msO_eq] at this
      rw [show apx (cnF f n) (msF f n) hh = hh from apx_eq hH.2, Nat.sub_add_cancel hH.1] at this
      exact this
  · rename_i s r t hv
    exact outs_okl Try.func26 (by kernel_rfl) (by kernel_rfl) hv (O1 := fun v => v = .snil) (O2 := fun _ _ => False) (fun r h => by subst h; exact ⟨rfl, fun _ => rfl⟩) (fun res c h => h.elim) (msn_all s r t) (Nat.le_of_ble_eq_true (by kernel_rfl)) (by kernel_rfl) rfl (fun r h => by subst h; assumption) (fun res c h => h.elim)
  · exact h.elim
theorem don_beq (f : Nat → Bool) (n : Nat) : donO f n = Nat.beq (cnO f n) 0 := by rw [donO_eq, cnO_eq]
noncomputable def nG26 : GOrc := G26 noG
theorem nG26_ok : GOrcOK Try.prog nG26 := G26_ok (noG_ok _)
theorem dnd_s_s (s r t : Int) (n c xN : Nat) (f : Nat → Bool) (T : List V) : awq Try.prog orc0 nG26 1 1200 (body Try.f36) (ends Try.prog Try.f36 (fun v _ => okV (V.bool (donO f n)) v)) ⟨ovr 7 [0] [(rf s r 0 n c t)] T, [(V.tup [(V.bools xN f)])]⟩ = (gB (Nat.ble n xN && Nat.ble n 1000) (mB (Nat.beq (cnO f n) 0) (okV (V.bool (donO f n)) (V.bool true)) (∀ (e1 : Nat) (ff2 : Nat → Int), (okV (V.bool (donO f n)) (V.bool ((((cnO f n) : Nat) : Int) == 0)))))) := by kernel_rfl
abbrev dnd_Ka0 (f : Nat → Bool) (n : Nat) : List V → List V → Prop := OkL Try.prog 1 7 [0] (body Try.f36) (ends Try.prog Try.f36 (fun v _ => okV (V.bool (donO f n)) v))
theorem dnd_all (s r t : Int) (n c xN : Nat) (f : Nat → Bool) (hxn : n ≤ xN) (h9 : n ≤ 1000) : (dnd_Ka0 f n) [(rf s r 0 n c t)] [(V.tup [(V.bools xN f)])] := by
  exact okl_all hM orc0_ok nG26_ok (N := 1200) (fun T => Eq.mpr (dnd_s_s s r t n c xN f T ) (gm (both (bleT.2 (by omega)) (bleT.2 (by omega))) (mBt (fun h0 => (okV_bool (by rw [don_beq, h0]))) (fun h0 => (fun e1 ff2 => (okV_bool (by rw [don_beq, h0]; exact decide_eq_false (fun e => absurd (show cnO f n = 0 by omega) (fun e => by rw [e] at h0; cases h0)))))))))
theorem dnn_s_s (s r t : Int) (T : List V) : awq Try.prog orc0 nG26 0 1200 (body Try.f36) (ends Try.prog Try.f36 (fun v _ => okV (V.bool true) v)) ⟨ovr 7 [0] [(V.agg [(V.int .i64 s), (V.int .i64 r), V.snil, (V.int .i64 t)])] T, []⟩ = (okV (V.bool true) (V.bool true)) := by kernel_rfl
abbrev dnn_Ka0 : List V → List V → Prop := OkL Try.prog 0 7 [0] (body Try.f36) (ends Try.prog Try.f36 (fun v _ => okV (V.bool true) v))
theorem dnn_all (s r t : Int) : dnn_Ka0 [(V.agg [(V.int .i64 s), (V.int .i64 r), V.snil, (V.int .i64 t)])] [] := by
  exact okl_all hM orc0_ok nG26_ok (N := 1200) (fun T => Eq.mpr (dnn_s_s s r t T ) (okV_bool rfl))
noncomputable def g36 : List V → List V → Option (Bool × V) := fun vs m => match views [] vs m with
  | some ([.agg [.int .i64 s, .int .i64 r, .sl 0 0 n c, .int .i64 t]], [.tup [.bools xN f]]) => some (Nat.ble n xN && Nat.ble n 1000, .bool (donO f n))
  | some ([.agg [.int .i64 s, .int .i64 r, .snil, .int .i64 t]], []) => some (true, .bool true)
  | _ => none
theorem g36_ok (vs m : List V) (v : V) (h : g36 vs m = some (true, v)) : v.flat = true ∧ ∀ μ B w0 w, Under B w0 → Rel μ B w0 m w → PureAt Try.prog 36 (vs.map (V.den μ)).toArray (v.den μ) w := by
  unfold g36 at h
  split at h
  · rename_i s r n c t xN f hv
    simp only [Option.some.injEq, Prod.mk.injEq, Bool.and_eq_true, true_and] at h
    obtain ⟨hg, rfl⟩ := h
    refine ⟨rfl, ?_⟩
    exact reads_okl Try.func36 (by kernel_rfl) (by kernel_rfl) hv rfl (dnd_all s r t n c xN f (bleT.1 hg.1) (bleT.1 hg.2)) (Nat.le_of_ble_eq_true (by kernel_rfl)) (by kernel_rfl) rfl
  · rename_i s r t hv
    simp only [Option.some.injEq, Prod.mk.injEq, Bool.and_eq_true, true_and] at h
    subst h
    refine ⟨rfl, ?_⟩
    exact reads_okl Try.func36 (by kernel_rfl) (by kernel_rfl) hv rfl (dnn_all s r t) (Nat.le_of_ble_eq_true (by kernel_rfl)) (by kernel_rfl) rfl
  · cases h
theorem g36_grow (vs m : List V) (z : V) (r : Bool × V) (h : g36 vs m = some r) : g36 vs (m ++ [z]) = some r := by
  unfold g36 at h ⊢
  cases hv : views [] vs m with
  | none => rw [hv] at h; cases h
  | some p => rw [hv] at h; rw [views_grow hv]; exact h
noncomputable def o36 : Orc := extM 36 g36 orc0
theorem o36_ok : OrcOK Try.prog o36 := extM_ok orc0_ok g36_ok g36_grow
theorem rdd_s_s (s r t : Int) (n c xN : Nat) (f : Nat → Bool) (T : List V) : awq Try.prog o36 nG 1 1200 (body Try.f34) (ends Try.prog Try.f34 (fun v _ => okV (V.tup [V.int .i64 (cond (donO f n) (subI .i64 r t) 0), V.int .i64 (cond (donO f n) 0 211)]) v)) ⟨ovr 12 [0] [(rf s r 0 n c t)] T, [(V.tup [(V.bools xN f)])]⟩ = (gB (Nat.ble n xN && Nat.ble n 1000) (mB (!(donO f n)) (okV (V.tup [V.int .i64 (cond (donO f n) (subI .i64 r t) 0), V.int .i64 (cond (donO f n) 0 211)]) (V.tup [(V.int .i64 0), (V.int .i64 211)])) (okV (V.tup [V.int .i64 (cond (donO f n) (subI .i64 r t) 0), V.int .i64 (cond (donO f n) 0 211)]) (V.tup [(V.int .i64 (subI .i64 r t)), (V.int .i64 0)])))) := by kernel_rfl
abbrev rdd_Ka0 (r t : Int) (f : Nat → Bool) (n : Nat) : List V → List V → Prop := OkL Try.prog 1 12 [0] (body Try.f34) (ends Try.prog Try.f34 (fun v _ => okV (V.tup [V.int .i64 (cond (donO f n) (subI .i64 r t) 0), V.int .i64 (cond (donO f n) 0 211)]) v))
theorem rdd_all (s r t : Int) (n c xN : Nat) (f : Nat → Bool) (hxn : n ≤ xN) (h9 : n ≤ 1000) : (rdd_Ka0 r t f n) [(rf s r 0 n c t)] [(V.tup [(V.bools xN f)])] := by
  exact okl_all hM o36_ok nG_ok (N := 1200) (fun T => Eq.mpr (rdd_s_s s r t n c xN f T ) (gm (both (bleT.2 (by omega)) (bleT.2 (by omega))) (mBt (fun h0 => (by rw [show donO f n = false by simpa using h0]; exact okV_refl rfl)) (fun h0 => (by rw [show donO f n = true by simpa using h0]; exact okV_refl rfl)))))
theorem rdn_s_s (s r t : Int) (T : List V) : awq Try.prog o36 nG 0 1200 (body Try.f34) (ends Try.prog Try.f34 (fun v _ => okV (V.tup [V.int .i64 (subI .i64 r t), V.int .i64 0]) v)) ⟨ovr 12 [0] [(V.agg [(V.int .i64 s), (V.int .i64 r), V.snil, (V.int .i64 t)])] T, []⟩ = (okV (V.tup [V.int .i64 (subI .i64 r t), V.int .i64 0]) (V.tup [(V.int .i64 (subI .i64 r t)), (V.int .i64 0)])) := by kernel_rfl
abbrev rdn_Ka0 (r t : Int) : List V → List V → Prop := OkL Try.prog 0 12 [0] (body Try.f34) (ends Try.prog Try.f34 (fun v _ => okV (V.tup [V.int .i64 (subI .i64 r t), V.int .i64 0]) v))
theorem rdn_all (s r t : Int) : (rdn_Ka0 r t) [(V.agg [(V.int .i64 s), (V.int .i64 r), V.snil, (V.int .i64 t)])] [] := by
  exact okl_all hM o36_ok nG_ok (N := 1200) (fun T => Eq.mpr (rdn_s_s s r t T ) (okV_refl rfl))
noncomputable def g34 : List V → List V → Option (Bool × V) := fun vs m => match views [] vs m with
  | some ([.agg [.int .i64 s, .int .i64 r, .sl 0 0 n c, .int .i64 t]], [.tup [.bools xN f]]) => some (Nat.ble n xN && Nat.ble n 1000, .tup [.int .i64 (cond (donO f n) (subI .i64 r t) 0), .int .i64 (cond (donO f n) 0 211)])
  | some ([.agg [.int .i64 s, .int .i64 r, .snil, .int .i64 t]], []) => some (true, .tup [.int .i64 (subI .i64 r t), .int .i64 0])
  | _ => none
theorem g34_ok (vs m : List V) (v : V) (h : g34 vs m = some (true, v)) : v.flat = true ∧ ∀ μ B w0 w, Under B w0 → Rel μ B w0 m w → PureAt Try.prog 34 (vs.map (V.den μ)).toArray (v.den μ) w := by
  unfold g34 at h
  split at h
  · rename_i s r n c t xN f hv
    simp only [Option.some.injEq, Prod.mk.injEq, Bool.and_eq_true, true_and] at h
    obtain ⟨hg, rfl⟩ := h
    refine ⟨rfl, ?_⟩
    exact reads_okl Try.func34 (by kernel_rfl) (by kernel_rfl) hv rfl (rdd_all s r t n c xN f (bleT.1 hg.1) (bleT.1 hg.2)) (Nat.le_of_ble_eq_true (by kernel_rfl)) (by kernel_rfl) rfl
  · rename_i s r t hv
    simp only [Option.some.injEq, Prod.mk.injEq, Bool.and_eq_true, true_and] at h
    subst h
    refine ⟨rfl, ?_⟩
    exact reads_okl Try.func34 (by kernel_rfl) (by kernel_rfl) hv rfl (rdn_all s r t) (Nat.le_of_ble_eq_true (by kernel_rfl)) (by kernel_rfl) rfl
  · cases h
theorem g34_grow (vs m : List V) (z : V) (r : Bool × V) (h : g34 vs m = some r) : g34 vs (m ++ [z]) = some r := by
  unfold g34 at h ⊢
  cases hv : views [] vs m with
  | none => rw [hv] at h; cases h
  | some p => rw [hv] at h; rw [views_grow hv]; exact h
end Go.Proofs.Ytomipglebaaagaa
