/-
  A part of the groundwork of this seat's claims: an evaluator over the program, walks, and plain mathematics. Conditions: none.
-/
import Derived.Test.YtbnclikjbnfodaaY09
import Derived.Test.YtbnclikjbnfodaaFvU
/-
  asked: a contract; made, asked as callees. Conditions: none.
-/
namespace Go.Proofs.Ytbnclikjbnfodaa
open Go.Ev Go.Num
set_option linter.unusedVariables false
set_option linter.unusedSimpArgs false
def akT (n c d : Nat) (mu : Int) (hh gg : Nat → Int) (t : Go.Ev.Told) : Prop := t = ⟨.bool true, [plV 1 2 n c d mu, .ints .u64 (c * 20) hh, .ints .u64 (d * 30) gg], []⟩
abbrev akK (n c d : Nat) (mu : Int) (hh gg : Nat → Int) (v : V) (m : List V) : Prop := ∃ t, akT n c d mu hh gg t ∧ toldIn 0 3 t v m
theorem ak_mk {n c d : Nat} {mu : Int} {hh gg : Nat → Int} {b : Bool} (hb : b = true) {m : List V} (h0 : m[0]? = some (plV 1 2 n c d mu)) (h1 : m[1]? = some (.ints .u64 (c * 20) hh)) (h2 : m[2]? = some (.ints .u64 (d * 30) gg)) : akK n c d mu hh gg (.bool b) m :=
  ⟨_, rfl, told3 (ids := []) h0 h1 h2 ⟨⟨rfl, rfl, rfl⟩, rfl, rfl, rfl⟩ rfl List.nodup_nil (fun i hi => by cases hi) (fun ν κ k0 k1 k2 _ => ⟨by subst hb; simp [V.den], plV_den k1 k2, ints_d _ _ _ _ _, ints_d _ _ _ _ _⟩) (fun j c i hc _ => by simp at hc)⟩
theorem ask_eq {x y a b : Nat → Int} {A D : Pn} (h1 : Fm x A) (h2 : Fm y D) (h3 : Rm a A) (h4 : Rm b D) : equalPO x y = rEqualPO a b := by
  rw [Bool.eq_iff_iff, equalP_iff h1 h2, rEqual_iff h3 h4]
theorem ask_sm {x a : Nat → Int} {A : Pn} (h1 : Fm x A) (h3 : Rm a A) : smallPO x = rSmallPO a := by
  rw [Bool.eq_iff_iff, small_iff h1, rSmall_iff h3]
theorem ask_en {x a : Nat → Int} {A : Pn} (h1 : Fm x A) (h3 : Rm a A) : eqN 32 (encodePO x) (rEncodePO a) = true := by
  obtain ⟨e1, e2⟩ := encE h1
  obtain ⟨g1, g2⟩ := rEnc h3
  rw [vb_inj e1 g1, e2, g2]; simp
theorem ask_3_s (n c d : Nat) (mu : Int) (hh gg : Nat → Int) (u : Nat → Value) (ki kj : Int) (T : List V) : awq Try.prog qF GQ 3 1200 (dropC 2 (body Try.f78)) (ends Try.prog Try.f78 ((akK n c d mu hh gg))) ⟨ovr 102 [0, 3, 5, 6] [(vP 0), (vP 3), (vI ki), (vI kj)] T, [(V.agg [(V.sl 1 0 n c), (V.sl 2 0 n d), (V.int .i64 mu)]), (V.ints .u64 (c * 20) hh), (V.ints .u64 (d * 30) gg), (V.raw 119 u)]⟩ = (gB (isK (.int .i64) (u 0)) (mB ((gI (u 0)) == 8) (gB (decide (0 ≤ ki ∧ ki < n)) (gB (Nat.ble ((0 + (Int.toNat ki * 20)) + 20) (c * 20)) (mB (onPO (sh (0 + (Int.toNat ki * 20)) hh)) (gB (okKs k20 u 99) (gB (okKs k20 u 99) ((akK n c d mu hh gg) (V.bool ((onPO (gIs u 99)) == (rOnPO (gIs u 99)))) [(V.agg [(V.sl 1 0 n c), (V.sl 2 0 n d), (V.int .i64 mu)]), (V.ints .u64 (c * 20) hh), (V.ints .u64 (d * 30) gg), (V.raw 119 u)]))) ((akK n c d mu hh gg) (V.bool false) [(V.agg [(V.sl 1 0 n c), (V.sl 2 0 n d), (V.int .i64 mu)]), (V.ints .u64 (c * 20) hh), (V.ints .u64 (d * 30) gg), (V.raw 119 u)])))) (gB (decide (0 ≤ ki ∧ ki < n)) (gB (Nat.ble ((0 + (Int.toNat ki * 20)) + 20) (c * 20)) (gB (decide (0 ≤ kj ∧ kj < n)) (gB (Nat.ble ((0 + (Int.toNat kj * 20)) + 20) (c * 20)) (gB (decide (0 ≤ ki ∧ ki < n)) (gB (Nat.ble ((0 + (Int.toNat ki * 30)) + 30) (d * 30)) (gB (decide (0 ≤ kj ∧ kj < n)) (gB (Nat.ble ((0 + (Int.toNat kj * 30)) + 30) (d * 30)) (mB (!((equalPO (sh (0 + (Int.toNat ki * 20)) hh) (sh (0 + (Int.toNat kj * 20)) hh)) == (rEqualPO (sh (0 + (Int.toNat ki * 30)) gg) (sh (0 + (Int.toNat kj * 30)) gg)))) ((akK n c d mu hh gg) (V.bool false) [(V.agg [(V.sl 1 0 n c), (V.sl 2 0 n d), (V.int .i64 mu)]), (V.ints .u64 (c * 20) hh), (V.ints .u64 (d * 30) gg), (V.raw 119 u)]) (gB (decide (0 ≤ ki ∧ ki < n)) (gB (Nat.ble ((0 + (Int.toNat ki * 20)) + 20) (c * 20)) (gB (decide (0 ≤ ki ∧ ki < n)) (gB (Nat.ble ((0 + (Int.toNat ki * 30)) + 30) (d * 30)) (mB (!((smallPO (sh (0 + (Int.toNat ki * 20)) hh)) == (rSmallPO (sh (0 + (Int.toNat ki * 30)) gg)))) ((akK n c d mu hh gg) (V.bool false) [(V.agg [(V.sl 1 0 n c), (V.sl 2 0 n d), (V.int .i64 mu)]), (V.ints .u64 (c * 20) hh), (V.ints .u64 (d * 30) gg), (V.raw 119 u)]) (gB (decide (0 ≤ ki ∧ ki < n)) (gB (Nat.ble ((0 + (Int.toNat ki * 20)) + 20) (c * 20)) (gB (decide (0 ≤ ki ∧ ki < n)) (gB (Nat.ble ((0 + (Int.toNat ki * 30)) + 30) (d * 30)) ((akK n c d mu hh gg) (V.bool (eqN 32 (encodePO (sh (0 + (Int.toNat ki * 20)) hh)) (rEncodePO (sh (0 + (Int.toNat ki * 30)) gg)))) [(V.agg [(V.sl 1 0 n c), (V.sl 2 0 n d), (V.int .i64 mu)]), (V.ints .u64 (c * 20) hh), (V.ints .u64 (d * 30) gg), (V.raw 119 u)]))))))))))))))))))))) := by kernel_rfl
abbrev ask_Ka3 (n c d : Nat) (mu : Int) (hh gg : Nat → Int) : List V → List V → Prop := OkL Try.prog 3 102 [0, 3, 5, 6] (dropC 2 (body Try.f78)) (ends Try.prog Try.f78 ((akK n c d mu hh gg)))
theorem ask_3 (n c d : Nat) (mu : Int) (hh gg : Nat → Int) (u : Nat → Value) (ki kj : Int) (ho : OpK u) (hP : PlayI n hh gg) (hn0 : 0 < n) (h9 : n ≤ 100) (hc : n ≤ c) (hd : n ≤ d) (hki : 0 ≤ ki ∧ ki < (n : Nat)) (hkj : 0 ≤ kj ∧ kj < (n : Nat)) : (ask_Ka3 n c d mu hh gg) [(vP 0), (vP 3), (vI ki), (vI kj)] [(V.agg [(V.sl 1 0 n c), (V.sl 2 0 n d), (V.int .i64 mu)]), (V.ints .u64 (c * 20) hh), (V.ints .u64 (d * 30) gg), (V.raw 119 u)] := by
  obtain ⟨A0, a0, b0⟩ := hP.get hki
  obtain ⟨D0, d0, e0⟩ := hP.get hkj
  exact okl_all hM qF_ok GQ_ok (N := 1200) (fun T => Eq.mpr (ask_3_s n c d mu hh gg u ki kj T ) (gm ho.i0 (mBt (fun h0 => (gm (decide_eq_true (by omega)) (gm (bleT.2 (by omega)) (mBy (onP_of a0) (gm ho.c99 (gm ho.c99 (ak_mk (by rw [on_same ho.raw]; simp) rfl rfl rfl))))))) (fun h0 => (gm (decide_eq_true (by omega)) (gm (bleT.2 (by omega)) (gm (decide_eq_true (by omega)) (gm (bleT.2 (by omega)) (gm (decide_eq_true (by omega)) (gm (bleT.2 (by omega)) (gm (decide_eq_true (by omega)) (gm (bleT.2 (by omega)) (mBn (by rw [ask_eq a0 d0 b0 e0]; simp) (gm (decide_eq_true (by omega)) (gm (bleT.2 (by omega)) (gm (decide_eq_true (by omega)) (gm (bleT.2 (by omega)) (mBn (by rw [ask_sm a0 b0]; simp) (gm (decide_eq_true (by omega)) (gm (bleT.2 (by omega)) (gm (decide_eq_true (by omega)) (gm (bleT.2 (by omega)) (ak_mk (ask_en a0 b0) rfl rfl rfl)))))))))))))))))))))))
theorem ask_s_s (n c d : Nat) (mu : Int) (hh gg : Nat → Int) (u : Nat → Value) (T : List V) (kk : List V → List V → Prop) : awq Try.prog qF GQ 3 1200 (takeC 2 (body Try.f78)) (segQ 102 [0, 3, 5, 6] kk (ends Try.prog Try.f78 ((akK n c d mu hh gg)))) ⟨ovr 102 [0, 1] [(vP 0), (V.raw 119 u)] T, [(V.agg [(V.sl 1 0 n c), (V.sl 2 0 n d), (V.int .i64 mu)]), (V.ints .u64 (c * 20) hh), (V.ints .u64 (d * 30) gg)]⟩ = (gB (isK (.int .i64) (u 1)) ((n = n ∧ (c * 20) = c * 20 ∧ (d * 30) = d * 30 ∧ 0 < n ∧ n ≤ 200) ∧ (∀ (kx1 : Int), (0 ≤ kx1 ∧ kx1 < (n : Nat)) → (gB (isK (.int .i64) (u 2)) ((n = n ∧ (c * 20) = c * 20 ∧ (d * 30) = d * 30 ∧ 0 < n ∧ n ≤ 200) ∧ (∀ (kx2 : Int), (0 ≤ kx2 ∧ kx2 < (n : Nat)) → (kk [(vP 0), (vP 3), (vI kx1), (vI kx2)] [(V.agg [(V.sl 1 0 n c), (V.sl 2 0 n d), (V.int .i64 mu)]), (V.ints .u64 (c * 20) hh), (V.ints .u64 (d * 30) gg), (V.raw 119 u)]))))))) := by kernel_rfl
abbrev ask_Ka0 (n c d : Nat) (mu : Int) (hh gg : Nat → Int) : List V → List V → Prop := OkL Try.prog 3 102 [0, 1] (body Try.f78) (ends Try.prog Try.f78 ((akK n c d mu hh gg)))
theorem ask_all (n c d : Nat) (mu : Int) (hh gg : Nat → Int) (u : Nat → Value) (ho : OpK u) (hP : PlayI n hh gg) (hn0 : 0 < n) (h9 : n ≤ 100) (hc : n ≤ c) (hd : n ≤ d) : (ask_Ka0 n c d mu hh gg) [(vP 0), (V.raw 119 u)] [(V.agg [(V.sl 1 0 n c), (V.sl 2 0 n d), (V.int .i64 mu)]), (V.ints .u64 (c * 20) hh), (V.ints .u64 (d * 30) gg)] := by
  exact okl_seg hM qF_ok GQ_ok (N := 1200) 2 (by kernel_rfl) (show dropC 2 (body Try.f78) = (dropC 2 (body Try.f78)) by kernel_rfl) (fun T => Eq.mpr (ask_s_s n c d mu hh gg u T (ask_Ka3 n c d mu hh gg)) (gm ho.i1 ⟨⟨rfl, rfl, rfl, by omega, by omega⟩, (fun kx1 q0 => (gm ho.i2 ⟨⟨rfl, rfl, rfl, by omega, by omega⟩, (fun kx2 q1 => (ask_3 n c d mu hh gg u kx1 kx2 ho hP hn0 h9 hc hd q0 q1))⟩))⟩))
noncomputable def G77 (G : GOrc) : GOrc := extG 77 (fun vs m K => match vs with
  | [.ptr p 0, .raw 119 u] => match m[p]? with
    | some (.agg [.sl a 0 _ _, .sl b 0 _ _, .int .i64 _]) => match viewO [] [p, a, b] [.ptr p 0, .raw 119 u] m with
      | some ([.ptr 0 0, .raw 119 u], [.agg [.sl 1 0 n c, .sl 2 0 n2 d, .int .i64 mu], .ints .u64 C hh, .ints .u64 D gg]) =>
        (OpK u ∧ PlP n n2 c d C D hh gg) ∧ ∀ (n' : Nat) (mu' : Int), ∀ h1 h2 o1 o2 : Nat → Int, (PlN n n' h1 h2) → Put4 m p a b n' c d mu' o1 o2 h1 h2 (K (.bool true))
      | _ => False
    | _ => False
  | _ => False) G
theorem G77_ok {G : GOrc} (hG : GOrcOK Try.prog G) : GOrcOK Try.prog (G77 G) := by
  refine extG_ok hG fun vs m K h => ?_
  split at h
  · rename_i p u
    split at h
    · rename_i a _ _ b _ _ _ hm
      split at h
      · rename_i u2 n c n2 d mu C hh D gg hv
        obtain ⟨⟨ho, ⟨rfl, rfl, rfl⟩, hP, h0, h9, hc, hd⟩, h⟩ := h
        exact gens_okl Try.func77 (by kernel_rfl) (by kernel_rfl) (own := [_, _, _]) hv (T := mdT _ c d) (fun v m' hk => hk) (mde_all _ c d mu hh gg u2 ho hP h0 h9 hc hd) (Nat.le_of_ble_eq_true (by kernel_rfl)) (by kernel_rfl) rfl (fun t ht => by
          obtain ⟨n', mu', h1, h2, o1, o2, hp, ht⟩ := ht
          obtain ⟨k1, k2, k3, k4⟩ := h n' mu' h1 h2 o1 o2 hp
          rcases ht with ⟨q1, q2, rfl⟩ | ⟨q1, d1, q2, rfl⟩ | ⟨q1, c1, q2, rfl⟩ | ⟨c1, d1, q1, q2, rfl⟩
          · have := k1 ⟨q1, q2⟩
            rw [← List.append_nil (setO _ _ _)] at this
            exact this
          · exact k2 d1 ⟨q1, q2⟩
          · exact k3 c1 ⟨q2, q1⟩
          · exact k4 c1 d1 ⟨q1, q2⟩)
      · exact h.elim
    · exact h.elim
  · exact h.elim
noncomputable def G78 (G : GOrc) : GOrc := extG 78 (fun vs m K => match vs with
  | [.ptr p 0, .raw 119 u] => match m[p]? with
    | some (.agg [.sl a 0 _ _, .sl b 0 _ _, .int .i64 _]) => match viewO [] [p, a, b] [.ptr p 0, .raw 119 u] m with
      | some ([.ptr 0 0, .raw 119 u], [.agg [.sl 1 0 n c, .sl 2 0 n2 d, .int .i64 mu], .ints .u64 C hh, .ints .u64 D gg]) =>
        (OpK u ∧ PlP n n2 c d C D hh gg) ∧ K (.bool true) (setO m [p, a, b] [plV a b n c d mu, .ints .u64 (c * 20) hh, .ints .u64 (d * 30) gg])
      | _ => False
    | _ => False
  | _ => False) G
theorem G78_ok {G : GOrc} (hG : GOrcOK Try.prog G) : GOrcOK Try.prog (G78 G) := by
  refine extG_ok hG fun vs m K h => ?_
  split at h
  · rename_i p u
    split at h
    · rename_i a _ _ b _ _ _ hm
      split at h
      · rename_i u2 n c n2 d mu C hh D gg hv
        obtain ⟨⟨ho, ⟨rfl, rfl, rfl⟩, hP, h0, h9, hc, hd⟩, h⟩ := h
        exact gens_okl Try.func78 (by kernel_rfl) (by kernel_rfl) (own := [_, _, _]) hv (T := akT _ c d mu hh gg) (fun v m' hk => hk) (ask_all _ c d mu hh gg u2 ho hP h0 h9 hc hd) (Nat.le_of_ble_eq_true (by kernel_rfl)) (by kernel_rfl) rfl (fun t ht => by
          obtain rfl := ht
          have := h
          rw [← List.append_nil (setO _ _ _)] at this
          exact this)
      · exact h.elim
    · exact h.elim
  · exact h.elim
end Go.Proofs.Ytbnclikjbnfodaa

/-
  The law Exact: what its code asks holds. Conditions: none.
-/
namespace Go.Proofs.Ytbnclikjbnfodaa
open Go.Ev Go.Num
set_option linter.unusedVariables false
set_option linter.unusedSimpArgs false
noncomputable def GL : GOrc := inl Try.prog qF 1200 76 Try.f76 (G77 (G78 GQ))
theorem GL_ok : GOrcOK Try.prog GL := inl_ok hM qF_ok (G77_ok (G78_ok GQ_ok)) Try.func76 (by kernel_rfl) (by kernel_rfl)
/-- What is known of the script. -/
def ScrC (ns : Nat) (g : Nat → Value) : Prop := ∀ p, p < ns → okKs opKs g (119 * p) = true ∧ OpK (sh (119 * p) g)
/-- The play at a round's head. -/
def PlQ (p n c d : Nat) (hh gg : Nat → Int) : Prop := PlayI n hh gg ∧ 0 < n ∧ n ≤ 2 + 2 * p ∧ n ≤ c ∧ n ≤ d
theorem PlQ.up {p n c d : Nat} {hh gg : Nat → Int} (h : PlQ p n c d hh gg) : PlQ (p + 1) n c d hh gg := ⟨h.1, h.2.1, by have := h.2.2.1; omega, h.2.2.2⟩
theorem PlQ.nx {p n c d n' c' d' : Nat} {hh gg h1 h2 : Nat → Int} (h : PlQ p n c d hh gg) (hn : PlN n n' h1 h2) (hc : n' ≤ c' ∧ n' ≤ d') : PlQ (p + 1) n' c' d' h1 h2 := ⟨hn.2.2, by have := h.2.1; have := hn.1; omega, by have := h.2.2.1; have := hn.2.1; omega, hc⟩
theorem cxl_5_s (ns cs : Nat) (g : Nat → Value) (T : List V) : awq Try.prog qF GL 1 1200 (dropC 4 (body Try.f20)) (ends Try.prog Try.f20 (fun v _ => okV (V.bool true) v)) ⟨ovr 81 [] [] T, [(V.tup [(V.raw (119 * ns) g)])]⟩ = (okV (V.bool true) (V.bool true)) := by kernel_rfl
abbrev cxl_Ka5 : List V → List V → Prop := OkL Try.prog 1 81 [] (dropC 4 (body Try.f20)) (ends Try.prog Try.f20 (fun v _ => okV (V.bool true) v))
theorem cxl_5 (ns cs : Nat) (g : Nat → Value) : cxl_Ka5 [] [(V.tup [(V.raw (119 * ns) g)])] := by
  exact okl_all hM qF_ok GL_ok (N := 1200) (fun T => Eq.mpr (cxl_5_s ns cs g T ) (okV_bool rfl))
abbrev cxl_Kl4h (w1 : Nat) : List V → List V → Prop := OkH Try.prog 1 81 [0, 3, 4] (lopC (blkC (dropC 0 (takeC 0 (dropC 3 (body Try.f20)))))) (blkQ 0 (segQ 81 [] cxl_Ka5 (ends Try.prog Try.f20 (fun v _ => okV (V.bool true) v)))) w1
abbrev cxl_Kl42 (w1 : Nat) : List V → List V → Prop := OkL Try.prog 1 81 [0, 3, 4] (dropC 1 (lopC (blkC (dropC 0 (takeC 0 (dropC 3 (body Try.f20))))))) (segQ 81 [0, 3, 4] (cxl_Kl4h w1) (blkQ 0 (segQ 81 [] cxl_Ka5 (ends Try.prog Try.f20 (fun v _ => okV (V.bool true) v)))))
theorem cxl_l_s (ns cs : Nat) (g : Nat → Value) (n c d : Nat) (mu : Int) (hh gg : Nat → Int) (i : Int) (T : List V) (k0 k1 : List V → List V → Prop) : awq Try.prog qF GL 1 1200 (dropC 1 (lopC (blkC (dropC 0 (takeC 0 (dropC 3 (body Try.f20))))))) (segQ 81 [0, 3, 4] k0 (blkQ 0 (segQ 81 [] k1 (ends Try.prog Try.f20 (fun v _ => okV (V.bool true) v))))) ⟨ovr 81 [0, 3, 4] [(vS 0 ns cs), (vP 1), (vI i)] T, [(V.tup [(V.raw (119 * ns) g)]), (V.agg [(V.sl 2 0 n c), (V.sl 3 0 n d), (V.int .i64 mu)]), (V.ints .u64 (c * 20) hh), (V.ints .u64 (d * 30) gg)]⟩ = (k0 [(vS 0 ns cs), (vP 1), (vI (addI .i64 i 1))] [(V.tup [(V.raw (119 * ns) g)]), (V.agg [(V.sl 2 0 n c), (V.sl 3 0 n d), (V.int .i64 mu)]), (V.ints .u64 (c * 20) hh), (V.ints .u64 (d * 30) gg)]) := by kernel_rfl
theorem cxl_l (w1 : Nat) (ns cs : Nat) (g : Nat → Value) (n c d : Nat) (mu : Int) (hh gg : Nat → Int) (i : Int) (p : Nat) (hQ : PlQ (p + 1) n c d hh gg) (IH : ∀ (n c d : Nat) (mu : Int) (hh gg : Nat → Int), PlQ (p + 1) n c d hh gg → (cxl_Kl4h w1) [(vS 0 ns cs), (vP 1), (vI (addI .i64 i 1))] [(V.tup [(V.raw (119 * ns) g)]), (V.agg [(V.sl 2 0 n c), (V.sl 3 0 n d), (V.int .i64 mu)]), (V.ints .u64 (c * 20) hh), (V.ints .u64 (d * 30) gg)]) : (cxl_Kl42 w1) [(vS 0 ns cs), (vP 1), (vI i)] [(V.tup [(V.raw (119 * ns) g)]), (V.agg [(V.sl 2 0 n c), (V.sl 3 0 n d), (V.int .i64 mu)]), (V.ints .u64 (c * 20) hh), (V.ints .u64 (d * 30) gg)] := by
  exact okl_all hM qF_ok GL_ok (N := 1200) (fun T => Eq.mpr (cxl_l_s ns cs g n c d mu hh gg i T (cxl_Kl4h w1) cxl_Ka5) (IH n c d mu hh gg hQ))
theorem cxl_1_s (ns cs : Nat) (g : Nat → Value) (n c d : Nat) (mu : Int) (hh gg : Nat → Int) (i : Int) (u : Nat → Value) (T : List V) (k0 k1 k2 : List V → List V → Prop) : awq Try.prog qF GL 1 1200 (dropC 0 (blkC (takeC 0 (dropC 0 (lopC (blkC (dropC 0 (takeC 0 (dropC 3 (body Try.f20)))))))))) (blkQ 1 (segQ 81 [0, 3, 4] k0 (segQ 81 [0, 3, 4] k1 (blkQ 0 (segQ 81 [] k2 (ends Try.prog Try.f20 (fun v _ => okV (V.bool true) v))))))) ⟨ovr 81 [0, 3, 4, 5] [(vS 0 ns cs), (vP 1), (vI i), (vP 4)] T, [(V.tup [(V.raw (119 * ns) g)]), (V.agg [(V.sl 2 0 n c), (V.sl 3 0 n d), (V.int .i64 mu)]), (V.ints .u64 (c * 20) hh), (V.ints .u64 (d * 30) gg), (V.raw 119 u)]⟩ = (gB (isK (.int .i64) (u 0)) (mB (decide ((gI (u 0)) ≥ 1)) (gB (isK (.int .i64) (u 0)) (mB (decide ((gI (u 0)) ≤ 6)) (gB (okKs opKs u 0) ((OpK u ∧ PlP n n c d (c * 20) (d * 30) hh gg) ∧ (∀ (nx5 : Nat) (mx6 : Int), (∀ (hx1 gx2 ox3 ox4 : Nat → Int), (PlN n nx5 hx1 gx2) → (((nx5 ≤ c ∧ nx5 ≤ d) → (k0 [(vS 0 ns cs), (vP 1), (vI i)] [(V.tup [(V.raw (119 * ns) g)]), (V.agg [(V.sl 2 0 nx5 c), (V.sl 3 0 nx5 d), (V.int .i64 mx6)]), (V.ints .u64 (c * 20) hx1), (V.ints .u64 (d * 30) gx2), (V.raw 119 u)])) ∧ ((∀ (dx8 : Nat), ((nx5 ≤ c ∧ nx5 ≤ dx8) → (k0 [(vS 0 ns cs), (vP 1), (vI i)] [(V.tup [(V.raw (119 * ns) g)]), (V.agg [(V.sl 2 0 nx5 c), (V.sl 5 0 nx5 dx8), (V.int .i64 mx6)]), (V.ints .u64 (c * 20) hx1), (V.ints .u64 (d * 30) ox4), (V.raw 119 u), (V.ints .u64 (dx8 * 30) gx2)]))) ∧ ((∀ (cx7 : Nat), ((nx5 ≤ cx7 ∧ nx5 ≤ d) → (k0 [(vS 0 ns cs), (vP 1), (vI i)] [(V.tup [(V.raw (119 * ns) g)]), (V.agg [(V.sl 5 0 nx5 cx7), (V.sl 3 0 nx5 d), (V.int .i64 mx6)]), (V.ints .u64 (c * 20) ox3), (V.ints .u64 (d * 30) gx2), (V.raw 119 u), (V.ints .u64 (cx7 * 20) hx1)]))) ∧ (∀ (cx9 : Nat) (dx10 : Nat), ((nx5 ≤ cx9 ∧ nx5 ≤ dx10) → (k0 [(vS 0 ns cs), (vP 1), (vI i)] [(V.tup [(V.raw (119 * ns) g)]), (V.agg [(V.sl 5 0 nx5 cx9), (V.sl 6 0 nx5 dx10), (V.int .i64 mx6)]), (V.ints .u64 (c * 20) ox3), (V.ints .u64 (d * 30) ox4), (V.raw 119 u), (V.ints .u64 (cx9 * 20) hx1), (V.ints .u64 (dx10 * 30) gx2)])))))))))) (gB (isK (.int .i64) (u 0)) (mB ((gI (u 0)) == 7) (gB (okKs opKs u 0) ((OpK u ∧ PlP n n c d (c * 20) (d * 30) hh gg) ∧ (k0 [(vS 0 ns cs), (vP 1), (vI i)] [(V.tup [(V.raw (119 * ns) g)]), (V.agg [(V.sl 2 0 n c), (V.sl 3 0 n d), (V.int .i64 mu)]), (V.ints .u64 (c * 20) hh), (V.ints .u64 (d * 30) gg), (V.raw 119 u)]))) (gB (isK (.int .i64) (u 0)) (mB ((gI (u 0)) == 8) (gB (okKs opKs u 0) ((OpK u ∧ PlP n n c d (c * 20) (d * 30) hh gg) ∧ (k0 [(vS 0 ns cs), (vP 1), (vI i)] [(V.tup [(V.raw (119 * ns) g)]), (V.agg [(V.sl 2 0 n c), (V.sl 3 0 n d), (V.int .i64 mu)]), (V.ints .u64 (c * 20) hh), (V.ints .u64 (d * 30) gg), (V.raw 119 u)]))) (gB (isK (.int .i64) (u 0)) (mB ((gI (u 0)) == 9) (gB (isK (.int .i64) (u 1)) ((n = n ∧ (c * 20) = c * 20 ∧ (d * 30) = d * 30 ∧ 0 < n ∧ n ≤ 200) ∧ (∀ (kx11 : Int), (0 ≤ kx11 ∧ kx11 < (n : Nat)) → (gB (decide (0 ≤ kx11 ∧ kx11 < n)) (gB (Nat.ble ((0 + (Int.toNat kx11 * 20)) + 20) (c * 20)) (gB (okKs k5 u 109) (gB (decide (0 ≤ kx11 ∧ kx11 < n)) (gB (Nat.ble ((0 + (Int.toNat kx11 * 30)) + 30) (d * 30)) ((n = n ∧ ((c * 20) = c * 20 ∧ (d * 30) = d * 30) ∧ n ≤ c ∧ n ≤ d ∧ n ≤ 200) ∧ (∀ (hx12 gx13 : Nat → Int), (PutR n 20 hh (formPO (sh (0 + (Int.toNat kx11 * 20)) hh) (rOfO (gIs u 109))) hx12 ∧ PutR n 30 gg (sh (0 + (Int.toNat kx11 * 30)) gg) gx13) → ((((n + 1) ≤ c ∧ (n + 1) ≤ d) → (mB (!(isPO (formPO (sh (0 + (Int.toNat kx11 * 20)) hh) (rOfO (gIs u 109))) (sh (0 + (Int.toNat kx11 * 30)) gg))) (okV (V.bool true) (V.bool false)) (k0 [(vS 0 ns cs), (vP 1), (vI i)] [(V.tup [(V.raw (119 * ns) g)]), (V.agg [(V.sl 2 0 (n + 1) c), (V.sl 3 0 (n + 1) d), (V.int .i64 mu)]), (V.ints .u64 (c * 20) hx12), (V.ints .u64 (d * 30) gx13), (V.raw 119 u)]))) ∧ ((∀ (dx15 : Nat), (((n + 1) ≤ c ∧ (n + 1) ≤ dx15) → (mB (!(isPO (formPO (sh (0 + (Int.toNat kx11 * 20)) hh) (rOfO (gIs u 109))) (sh (0 + (Int.toNat kx11 * 30)) gg))) (okV (V.bool true) (V.bool false)) (k0 [(vS 0 ns cs), (vP 1), (vI i)] [(V.tup [(V.raw (119 * ns) g)]), (V.agg [(V.sl 2 0 (n + 1) c), (V.sl 5 0 (n + 1) dx15), (V.int .i64 mu)]), (V.ints .u64 (c * 20) hx12), (V.ints .u64 (d * 30) gg), (V.raw 119 u), (V.ints .u64 (dx15 * 30) gx13)])))) ∧ ((∀ (cx14 : Nat), (((n + 1) ≤ cx14 ∧ (n + 1) ≤ d) → (mB (!(isPO (formPO (sh (0 + (Int.toNat kx11 * 20)) hh) (rOfO (gIs u 109))) (sh (0 + (Int.toNat kx11 * 30)) gg))) (okV (V.bool true) (V.bool false)) (k0 [(vS 0 ns cs), (vP 1), (vI i)] [(V.tup [(V.raw (119 * ns) g)]), (V.agg [(V.sl 5 0 (n + 1) cx14), (V.sl 3 0 (n + 1) d), (V.int .i64 mu)]), (V.ints .u64 (c * 20) hh), (V.ints .u64 (d * 30) gx13), (V.raw 119 u), (V.ints .u64 (cx14 * 20) hx12)])))) ∧ (∀ (cx16 : Nat) (dx17 : Nat), (((n + 1) ≤ cx16 ∧ (n + 1) ≤ dx17) → (mB (!(isPO (formPO (sh (0 + (Int.toNat kx11 * 20)) hh) (rOfO (gIs u 109))) (sh (0 + (Int.toNat kx11 * 30)) gg))) (okV (V.bool true) (V.bool false)) (k0 [(vS 0 ns cs), (vP 1), (vI i)] [(V.tup [(V.raw (119 * ns) g)]), (V.agg [(V.sl 5 0 (n + 1) cx16), (V.sl 6 0 (n + 1) dx17), (V.int .i64 mu)]), (V.ints .u64 (c * 20) hh), (V.ints .u64 (d * 30) gg), (V.raw 119 u), (V.ints .u64 (cx16 * 20) hx12), (V.ints .u64 (dx17 * 30) gx13)]))))))))))))))))) (k0 [(vS 0 ns cs), (vP 1), (vI i)] [(V.tup [(V.raw (119 * ns) g)]), (V.agg [(V.sl 2 0 n c), (V.sl 3 0 n d), (V.int .i64 mu)]), (V.ints .u64 (c * 20) hh), (V.ints .u64 (d * 30) gg), (V.raw 119 u)]))))))))) (gB (isK (.int .i64) (u 0)) (mB ((gI (u 0)) == 7) (gB (okKs opKs u 0) ((OpK u ∧ PlP n n c d (c * 20) (d * 30) hh gg) ∧ (k0 [(vS 0 ns cs), (vP 1), (vI i)] [(V.tup [(V.raw (119 * ns) g)]), (V.agg [(V.sl 2 0 n c), (V.sl 3 0 n d), (V.int .i64 mu)]), (V.ints .u64 (c * 20) hh), (V.ints .u64 (d * 30) gg), (V.raw 119 u)]))) (gB (isK (.int .i64) (u 0)) (mB ((gI (u 0)) == 8) (gB (okKs opKs u 0) ((OpK u ∧ PlP n n c d (c * 20) (d * 30) hh gg) ∧ (k0 [(vS 0 ns cs), (vP 1), (vI i)] [(V.tup [(V.raw (119 * ns) g)]), (V.agg [(V.sl 2 0 n c), (V.sl 3 0 n d), (V.int .i64 mu)]), (V.ints .u64 (c * 20) hh), (V.ints .u64 (d * 30) gg), (V.raw 119 u)]))) (gB (isK (.int .i64) (u 0)) (mB ((gI (u 0)) == 9) (gB (isK (.int .i64) (u 1)) ((n = n ∧ (c * 20) = c * 20 ∧ (d * 30) = d * 30 ∧ 0 < n ∧ n ≤ 200) ∧ (∀ (kx18 : Int), (0 ≤ kx18 ∧ kx18 < (n : Nat)) → (gB (decide (0 ≤ kx18 ∧ kx18 < n)) (gB (Nat.ble ((0 + (Int.toNat kx18 * 20)) + 20) (c * 20)) (gB (okKs k5 u 109) (gB (decide (0 ≤ kx18 ∧ kx18 < n)) (gB (Nat.ble ((0 + (Int.toNat kx18 * 30)) + 30) (d * 30)) ((n = n ∧ ((c * 20) = c * 20 ∧ (d * 30) = d * 30) ∧ n ≤ c ∧ n ≤ d ∧ n ≤ 200) ∧ (∀ (hx19 gx20 : Nat → Int), (PutR n 20 hh (formPO (sh (0 + (Int.toNat kx18 * 20)) hh) (rOfO (gIs u 109))) hx19 ∧ PutR n 30 gg (sh (0 + (Int.toNat kx18 * 30)) gg) gx20) → ((((n + 1) ≤ c ∧ (n + 1) ≤ d) → (mB (!(isPO (formPO (sh (0 + (Int.toNat kx18 * 20)) hh) (rOfO (gIs u 109))) (sh (0 + (Int.toNat kx18 * 30)) gg))) (okV (V.bool true) (V.bool false)) (k0 [(vS 0 ns cs), (vP 1), (vI i)] [(V.tup [(V.raw (119 * ns) g)]), (V.agg [(V.sl 2 0 (n + 1) c), (V.sl 3 0 (n + 1) d), (V.int .i64 mu)]), (V.ints .u64 (c * 20) hx19), (V.ints .u64 (d * 30) gx20), (V.raw 119 u)]))) ∧ ((∀ (dx22 : Nat), (((n + 1) ≤ c ∧ (n + 1) ≤ dx22) → (mB (!(isPO (formPO (sh (0 + (Int.toNat kx18 * 20)) hh) (rOfO (gIs u 109))) (sh (0 + (Int.toNat kx18 * 30)) gg))) (okV (V.bool true) (V.bool false)) (k0 [(vS 0 ns cs), (vP 1), (vI i)] [(V.tup [(V.raw (119 * ns) g)]), (V.agg [(V.sl 2 0 (n + 1) c), (V.sl 5 0 (n + 1) dx22), (V.int .i64 mu)]), (V.ints .u64 (c * 20) hx19), (V.ints .u64 (d * 30) gg), (V.raw 119 u), (V.ints .u64 (dx22 * 30) gx20)])))) ∧ ((∀ (cx21 : Nat), (((n + 1) ≤ cx21 ∧ (n + 1) ≤ d) → (mB (!(isPO (formPO (sh (0 + (Int.toNat kx18 * 20)) hh) (rOfO (gIs u 109))) (sh (0 + (Int.toNat kx18 * 30)) gg))) (okV (V.bool true) (V.bool false)) (k0 [(vS 0 ns cs), (vP 1), (vI i)] [(V.tup [(V.raw (119 * ns) g)]), (V.agg [(V.sl 5 0 (n + 1) cx21), (V.sl 3 0 (n + 1) d), (V.int .i64 mu)]), (V.ints .u64 (c * 20) hh), (V.ints .u64 (d * 30) gx20), (V.raw 119 u), (V.ints .u64 (cx21 * 20) hx19)])))) ∧ (∀ (cx23 : Nat) (dx24 : Nat), (((n + 1) ≤ cx23 ∧ (n + 1) ≤ dx24) → (mB (!(isPO (formPO (sh (0 + (Int.toNat kx18 * 20)) hh) (rOfO (gIs u 109))) (sh (0 + (Int.toNat kx18 * 30)) gg))) (okV (V.bool true) (V.bool false)) (k0 [(vS 0 ns cs), (vP 1), (vI i)] [(V.tup [(V.raw (119 * ns) g)]), (V.agg [(V.sl 5 0 (n + 1) cx23), (V.sl 6 0 (n + 1) dx24), (V.int .i64 mu)]), (V.ints .u64 (c * 20) hh), (V.ints .u64 (d * 30) gg), (V.raw 119 u), (V.ints .u64 (cx23 * 20) hx19), (V.ints .u64 (dx24 * 30) gx20)]))))))))))))))))) (k0 [(vS 0 ns cs), (vP 1), (vI i)] [(V.tup [(V.raw (119 * ns) g)]), (V.agg [(V.sl 2 0 n c), (V.sl 3 0 n d), (V.int .i64 mu)]), (V.ints .u64 (c * 20) hh), (V.ints .u64 (d * 30) gg), (V.raw 119 u)]))))))))) := by kernel_rfl
abbrev cxl_Kc41 (w1 : Nat) : List V → List V → Prop := OkL Try.prog 1 81 [0, 3, 4, 5] (dropC 0 (blkC (takeC 0 (dropC 0 (lopC (blkC (dropC 0 (takeC 0 (dropC 3 (body Try.f20)))))))))) (blkQ 1 (segQ 81 [0, 3, 4] (cxl_Kl42 w1) (segQ 81 [0, 3, 4] (cxl_Kl4h w1) (blkQ 0 (segQ 81 [] cxl_Ka5 (ends Try.prog Try.f20 (fun v _ => okV (V.bool true) v)))))))
theorem cxl_1 (w1 : Nat) (ns cs : Nat) (g : Nat → Value) (n c d : Nat) (mu : Int) (hh gg : Nat → Int) (i : Int) (u : Nat → Value) (h40 : ns ≤ 40) (hS : ScrC ns g) (ho : OpK u) (p : Nat) (hi : i = (p : Int)) (hp : p < ns) (hQ : PlQ p n c d hh gg) (IH : ∀ (n c d : Nat) (mu : Int) (hh gg : Nat → Int), PlQ (p + 1) n c d hh gg → (cxl_Kl4h w1) [(vS 0 ns cs), (vP 1), (vI (addI .i64 i 1))] [(V.tup [(V.raw (119 * ns) g)]), (V.agg [(V.sl 2 0 n c), (V.sl 3 0 n d), (V.int .i64 mu)]), (V.ints .u64 (c * 20) hh), (V.ints .u64 (d * 30) gg)]) : (cxl_Kc41 w1) [(vS 0 ns cs), (vP 1), (vI i), (vP 4)] [(V.tup [(V.raw (119 * ns) g)]), (V.agg [(V.sl 2 0 n c), (V.sl 3 0 n d), (V.int .i64 mu)]), (V.ints .u64 (c * 20) hh), (V.ints .u64 (d * 30) gg), (V.raw 119 u)] := by
  obtain ⟨hP, g1, g2, g3, g4⟩ := hQ
  have hQ : PlQ p n c d hh gg := ⟨hP, g1, g2, g3, g4⟩
  exact okl_all hM qF_ok GL_ok (N := 1200) (fun T => Eq.mpr (cxl_1_s ns cs g n c d mu hh gg i u T (cxl_Kl42 w1) (cxl_Kl4h w1) cxl_Ka5) (gm ho.i0 (mBt (fun h0 => have g0 := of_decide_eq_true h0; (gm ho.i0 (mBt (fun h1 => have g1 := of_decide_eq_true h1; (gm ho.ks ⟨⟨ho, ⟨rfl, rfl, rfl⟩, hP, by omega, by omega, by omega, by omega⟩, (fun nx5 mx6 => (fun hx1 gx2 ox3 ox4 q2 => ⟨(fun q3 => (at_gc (ok_gc _ _ _ _) (cxl_l w1 ns cs g nx5 c d mx6 hx1 gx2 i p (hQ.nx q2 (by omega)) IH) [0, 1, 2, 3] (by kernel_rfl) (by kernel_rfl) (by kernel_rfl) (fun μ => by kernel_rfl))), ⟨(fun dx8 => (fun q3 => (at_gc (ok_gc _ _ _ _) (cxl_l w1 ns cs g nx5 c dx8 mx6 hx1 gx2 i p (hQ.nx q2 (by omega)) IH) [0, 1, 2, 5] (by kernel_rfl) (by kernel_rfl) (by kernel_rfl) (fun μ => by kernel_rfl)))), ⟨(fun cx7 => (fun q3 => (at_gc (ok_gc _ _ _ _) (cxl_l w1 ns cs g nx5 cx7 d mx6 hx1 gx2 i p (hQ.nx q2 (by omega)) IH) [0, 1, 5, 3] (by kernel_rfl) (by kernel_rfl) (by kernel_rfl) (fun μ => by kernel_rfl)))), (fun cx9 dx10 => (fun q3 => (at_gc (ok_gc _ _ _ _) (cxl_l w1 ns cs g nx5 cx9 dx10 mx6 hx1 gx2 i p (hQ.nx q2 (by omega)) IH) [0, 1, 5, 6] (by kernel_rfl) (by kernel_rfl) (by kernel_rfl) (fun μ => by kernel_rfl))))⟩⟩⟩))⟩)) (fun h1 => have g1 := of_decide_eq_false h1; (gm ho.i0 (mBt (fun h2 => (gm ho.ks ⟨⟨ho, ⟨rfl, rfl, rfl⟩, hP, by omega, by omega, by omega, by omega⟩, (at_gc (ok_gc _ _ _ _) (cxl_l w1 ns cs g n c d mu hh gg i p hQ.up IH) [0, 1, 2, 3] (by kernel_rfl) (by kernel_rfl) (by kernel_rfl) (fun μ => by kernel_rfl))⟩)) (fun h2 => (gm ho.i0 (mBt (fun h3 => (gm ho.ks ⟨⟨ho, ⟨rfl, rfl, rfl⟩, hP, by omega, by omega, by omega, by omega⟩, (at_gc (ok_gc _ _ _ _) (cxl_l w1 ns cs g n c d mu hh gg i p hQ.up IH) [0, 1, 2, 3] (by kernel_rfl) (by kernel_rfl) (by kernel_rfl) (fun μ => by kernel_rfl))⟩)) (fun h3 => (gm ho.i0 (mBt (fun h4 => (gm ho.i1 ⟨⟨rfl, rfl, rfl, by omega, by omega⟩, (fun kx11 q5 => (gm (decide_eq_true (by omega)) (gm (bleT.2 (by omega)) (gm ho.c109 (gm (decide_eq_true (by omega)) (gm (bleT.2 (by omega)) ⟨⟨rfl, ⟨rfl, rfl⟩, by omega, by omega, by omega⟩, (fun hx12 gx13 q6 => ⟨(fun q7 => (mBn (by obtain ⟨A0, a0, b0⟩ := hP.get q5; obtain ⟨z, hz⟩ := raw_z ho.raw; rw [is_yes (form_fm hz a0) b0]; rfl) (at_gc (ok_gc _ _ _ _) (cxl_l w1 ns cs g (n + 1) c d mu hx12 gx13 i p (by obtain ⟨A0, a0, b0⟩ := hP.get q5; obtain ⟨z, hz⟩ := raw_z ho.raw; exact hQ.nx ⟨by omega, by omega, hP.put q6 (form_fm hz a0) b0⟩ (by omega)) IH) [0, 1, 2, 3] (by kernel_rfl) (by kernel_rfl) (by kernel_rfl) (fun μ => by kernel_rfl)))), ⟨(fun dx15 => (fun q7 => (mBn (by obtain ⟨A0, a0, b0⟩ := hP.get q5; obtain ⟨z, hz⟩ := raw_z ho.raw; rw [is_yes (form_fm hz a0) b0]; rfl) (at_gc (ok_gc _ _ _ _) (cxl_l w1 ns cs g (n + 1) c dx15 mu hx12 gx13 i p (by obtain ⟨A0, a0, b0⟩ := hP.get q5; obtain ⟨z, hz⟩ := raw_z ho.raw; exact hQ.nx ⟨by omega, by omega, hP.put q6 (form_fm hz a0) b0⟩ (by omega)) IH) [0, 1, 2, 5] (by kernel_rfl) (by kernel_rfl) (by kernel_rfl) (fun μ => by kernel_rfl))))), ⟨(fun cx14 => (fun q7 => (mBn (by obtain ⟨A0, a0, b0⟩ := hP.get q5; obtain ⟨z, hz⟩ := raw_z ho.raw; rw [is_yes (form_fm hz a0) b0]; rfl) (at_gc (ok_gc _ _ _ _) (cxl_l w1 ns cs g (n + 1) cx14 d mu hx12 gx13 i p (by obtain ⟨A0, a0, b0⟩ := hP.get q5; obtain ⟨z, hz⟩ := raw_z ho.raw; exact hQ.nx ⟨by omega, by omega, hP.put q6 (form_fm hz a0) b0⟩ (by omega)) IH) [0, 1, 5, 3] (by kernel_rfl) (by kernel_rfl) (by kernel_rfl) (fun μ => by kernel_rfl))))), (fun cx16 dx17 => (fun q7 => (mBn (by obtain ⟨A0, a0, b0⟩ := hP.get q5; obtain ⟨z, hz⟩ := raw_z ho.raw; rw [is_yes (form_fm hz a0) b0]; rfl) (at_gc (ok_gc _ _ _ _) (cxl_l w1 ns cs g (n + 1) cx16 dx17 mu hx12 gx13 i p (by obtain ⟨A0, a0, b0⟩ := hP.get q5; obtain ⟨z, hz⟩ := raw_z ho.raw; exact hQ.nx ⟨by omega, by omega, hP.put q6 (form_fm hz a0) b0⟩ (by omega)) IH) [0, 1, 5, 6] (by kernel_rfl) (by kernel_rfl) (by kernel_rfl) (fun μ => by kernel_rfl)))))⟩⟩⟩)⟩))))))⟩)) (fun h4 => (at_gc (ok_gc _ _ _ _) (cxl_l w1 ns cs g n c d mu hh gg i p hQ.up IH) [0, 1, 2, 3] (by kernel_rfl) (by kernel_rfl) (by kernel_rfl) (fun μ => by kernel_rfl))))))))))))))) (fun h0 => have g0 := of_decide_eq_false h0; (gm ho.i0 (mBt (fun h1 => (gm ho.ks ⟨⟨ho, ⟨rfl, rfl, rfl⟩, hP, by omega, by omega, by omega, by omega⟩, (at_gc (ok_gc _ _ _ _) (cxl_l w1 ns cs g n c d mu hh gg i p hQ.up IH) [0, 1, 2, 3] (by kernel_rfl) (by kernel_rfl) (by kernel_rfl) (fun μ => by kernel_rfl))⟩)) (fun h1 => (gm ho.i0 (mBt (fun h2 => (gm ho.ks ⟨⟨ho, ⟨rfl, rfl, rfl⟩, hP, by omega, by omega, by omega, by omega⟩, (at_gc (ok_gc _ _ _ _) (cxl_l w1 ns cs g n c d mu hh gg i p hQ.up IH) [0, 1, 2, 3] (by kernel_rfl) (by kernel_rfl) (by kernel_rfl) (fun μ => by kernel_rfl))⟩)) (fun h2 => (gm ho.i0 (mBt (fun h3 => (gm ho.i1 ⟨⟨rfl, rfl, rfl, by omega, by omega⟩, (fun kx18 q4 => (gm (decide_eq_true (by omega)) (gm (bleT.2 (by omega)) (gm ho.c109 (gm (decide_eq_true (by omega)) (gm (bleT.2 (by omega)) ⟨⟨rfl, ⟨rfl, rfl⟩, by omega, by omega, by omega⟩, (fun hx19 gx20 q5 => ⟨(fun q6 => (mBn (by obtain ⟨A0, a0, b0⟩ := hP.get q4; obtain ⟨z, hz⟩ := raw_z ho.raw; rw [is_yes (form_fm hz a0) b0]; rfl) (at_gc (ok_gc _ _ _ _) (cxl_l w1 ns cs g (n + 1) c d mu hx19 gx20 i p (by obtain ⟨A0, a0, b0⟩ := hP.get q4; obtain ⟨z, hz⟩ := raw_z ho.raw; exact hQ.nx ⟨by omega, by omega, hP.put q5 (form_fm hz a0) b0⟩ (by omega)) IH) [0, 1, 2, 3] (by kernel_rfl) (by kernel_rfl) (by kernel_rfl) (fun μ => by kernel_rfl)))), ⟨(fun dx22 => (fun q6 => (mBn (by obtain ⟨A0, a0, b0⟩ := hP.get q4; obtain ⟨z, hz⟩ := raw_z ho.raw; rw [is_yes (form_fm hz a0) b0]; rfl) (at_gc (ok_gc _ _ _ _) (cxl_l w1 ns cs g (n + 1) c dx22 mu hx19 gx20 i p (by obtain ⟨A0, a0, b0⟩ := hP.get q4; obtain ⟨z, hz⟩ := raw_z ho.raw; exact hQ.nx ⟨by omega, by omega, hP.put q5 (form_fm hz a0) b0⟩ (by omega)) IH) [0, 1, 2, 5] (by kernel_rfl) (by kernel_rfl) (by kernel_rfl) (fun μ => by kernel_rfl))))), ⟨(fun cx21 => (fun q6 => (mBn (by obtain ⟨A0, a0, b0⟩ := hP.get q4; obtain ⟨z, hz⟩ := raw_z ho.raw; rw [is_yes (form_fm hz a0) b0]; rfl) (at_gc (ok_gc _ _ _ _) (cxl_l w1 ns cs g (n + 1) cx21 d mu hx19 gx20 i p (by obtain ⟨A0, a0, b0⟩ := hP.get q4; obtain ⟨z, hz⟩ := raw_z ho.raw; exact hQ.nx ⟨by omega, by omega, hP.put q5 (form_fm hz a0) b0⟩ (by omega)) IH) [0, 1, 5, 3] (by kernel_rfl) (by kernel_rfl) (by kernel_rfl) (fun μ => by kernel_rfl))))), (fun cx23 dx24 => (fun q6 => (mBn (by obtain ⟨A0, a0, b0⟩ := hP.get q4; obtain ⟨z, hz⟩ := raw_z ho.raw; rw [is_yes (form_fm hz a0) b0]; rfl) (at_gc (ok_gc _ _ _ _) (cxl_l w1 ns cs g (n + 1) cx23 dx24 mu hx19 gx20 i p (by obtain ⟨A0, a0, b0⟩ := hP.get q4; obtain ⟨z, hz⟩ := raw_z ho.raw; exact hQ.nx ⟨by omega, by omega, hP.put q5 (form_fm hz a0) b0⟩ (by omega)) IH) [0, 1, 5, 6] (by kernel_rfl) (by kernel_rfl) (by kernel_rfl) (fun μ => by kernel_rfl)))))⟩⟩⟩)⟩))))))⟩)) (fun h3 => (at_gc (ok_gc _ _ _ _) (cxl_l w1 ns cs g n c d mu hh gg i p hQ.up IH) [0, 1, 2, 3] (by kernel_rfl) (by kernel_rfl) (by kernel_rfl) (fun μ => by kernel_rfl)))))))))))))))
theorem cxl_0_s (ns cs : Nat) (g : Nat → Value) (n c d : Nat) (mu : Int) (hh gg : Nat → Int) (i : Int) (T : List V) (kk k0 k1 k2 : List V → List V → Prop) : awq Try.prog qF GL 1 1200 (takeC 0 (blkC (takeC 0 (dropC 0 (lopC (blkC (dropC 0 (takeC 0 (dropC 3 (body Try.f20)))))))))) (segQ 81 [0, 3, 4, 5] kk (blkQ 1 (segQ 81 [0, 3, 4] k0 (segQ 81 [0, 3, 4] k1 (blkQ 0 (segQ 81 [] k2 (ends Try.prog Try.f20 (fun v _ => okV (V.bool true) v)))))))) ⟨ovr 81 [0, 3, 4] [(vS 0 ns cs), (vP 1), (vI i)] T, [(V.tup [(V.raw (119 * ns) g)]), (V.agg [(V.sl 2 0 n c), (V.sl 3 0 n d), (V.int .i64 mu)]), (V.ints .u64 (c * 20) hh), (V.ints .u64 (d * 30) gg)]⟩ = (gB (decide (0 ≤ i ∧ i < ns)) (gB (Nat.ble ((0 + (Int.toNat i * 119)) + 119) (119 * ns) && okKs opKs g (0 + (Int.toNat i * 119))) (gB (scals 119 (sh (0 + (Int.toNat i * 119)) g)) (kk [(vS 0 ns cs), (vP 1), (vI i), (vP 4)] [(V.tup [(V.raw (119 * ns) g)]), (V.agg [(V.sl 2 0 n c), (V.sl 3 0 n d), (V.int .i64 mu)]), (V.ints .u64 (c * 20) hh), (V.ints .u64 (d * 30) gg), (V.raw 119 (sh (0 + (Int.toNat i * 119)) g))])))) := by kernel_rfl
abbrev cxl_Kc40 (w1 : Nat) : List V → List V → Prop := OkL Try.prog 1 81 [0, 3, 4] (blkC (takeC 0 (dropC 0 (lopC (blkC (dropC 0 (takeC 0 (dropC 3 (body Try.f20))))))))) (blkQ 1 (segQ 81 [0, 3, 4] (cxl_Kl42 w1) (segQ 81 [0, 3, 4] (cxl_Kl4h w1) (blkQ 0 (segQ 81 [] cxl_Ka5 (ends Try.prog Try.f20 (fun v _ => okV (V.bool true) v)))))))
theorem cxl_0 (w1 : Nat) (ns cs : Nat) (g : Nat → Value) (n c d : Nat) (mu : Int) (hh gg : Nat → Int) (i : Int) (h40 : ns ≤ 40) (hS : ScrC ns g) (p : Nat) (hi : i = (p : Int)) (hp : p < ns) (hQ : PlQ p n c d hh gg) (IH : ∀ (n c d : Nat) (mu : Int) (hh gg : Nat → Int), PlQ (p + 1) n c d hh gg → (cxl_Kl4h w1) [(vS 0 ns cs), (vP 1), (vI (addI .i64 i 1))] [(V.tup [(V.raw (119 * ns) g)]), (V.agg [(V.sl 2 0 n c), (V.sl 3 0 n d), (V.int .i64 mu)]), (V.ints .u64 (c * 20) hh), (V.ints .u64 (d * 30) gg)]) : (cxl_Kc40 w1) [(vS 0 ns cs), (vP 1), (vI i)] [(V.tup [(V.raw (119 * ns) g)]), (V.agg [(V.sl 2 0 n c), (V.sl 3 0 n d), (V.int .i64 mu)]), (V.ints .u64 (c * 20) hh), (V.ints .u64 (d * 30) gg)] := by
  have hx : 0 + (Int.toNat i * 119) = 119 * p := by rw [hi, Int.toNat_natCast]; omega
  have hrow : okKs opKs g (0 + (Int.toNat i * 119)) = true := by rw [hx]; exact (hS p hp).1
  have hop : OpK (sh (0 + (Int.toNat i * 119)) g) := by rw [hx]; exact (hS p hp).2
  exact okl_seg hM qF_ok GL_ok (N := 1200) 0 (by kernel_rfl) (show dropC 0 (blkC (takeC 0 (dropC 0 (lopC (blkC (dropC 0 (takeC 0 (dropC 3 (body Try.f20))))))))) = (dropC 0 (blkC (takeC 0 (dropC 0 (lopC (blkC (dropC 0 (takeC 0 (dropC 3 (body Try.f20)))))))))) by kernel_rfl) (fun T => Eq.mpr (cxl_0_s ns cs g n c d mu hh gg i T (cxl_Kc41 w1) (cxl_Kl42 w1) (cxl_Kl4h w1) cxl_Ka5) (gm (decide_eq_true (by omega)) (gm (both (bleT.2 (by omega)) hrow) (gm hop.sc (cxl_1 w1 ns cs g n c d mu hh gg i (sh (0 + (Int.toNat i * 119)) g) h40 hS hop p hi hp hQ IH)))))
theorem cxl_h_s (ns cs : Nat) (g : Nat → Value) (n c d : Nat) (mu : Int) (hh gg : Nat → Int) (i : Int) (T : List V) (kk k0 k1 : List V → List V → Prop) : awq Try.prog qF GL 1 1200 (takeC 0 (lopC (blkC (dropC 0 (takeC 0 (dropC 3 (body Try.f20))))))) (segQ 81 [0, 3, 4] kk (segQ 81 [0, 3, 4] k0 (blkQ 0 (segQ 81 [] k1 (ends Try.prog Try.f20 (fun v _ => okV (V.bool true) v)))))) ⟨ovr 81 [0, 3, 4] [(vS 0 ns cs), (vP 1), (vI i)] T, [(V.tup [(V.raw (119 * ns) g)]), (V.agg [(V.sl 2 0 n c), (V.sl 3 0 n d), (V.int .i64 mu)]), (V.ints .u64 (c * 20) hh), (V.ints .u64 (d * 30) gg)]⟩ = (mB (decide (i < ((ns : Nat) : Int))) (kk [(vS 0 ns cs), (vP 1), (vI i)] [(V.tup [(V.raw (119 * ns) g)]), (V.agg [(V.sl 2 0 n c), (V.sl 3 0 n d), (V.int .i64 mu)]), (V.ints .u64 (c * 20) hh), (V.ints .u64 (d * 30) gg)]) (k1 [] [(V.tup [(V.raw (119 * ns) g)]), (V.agg [(V.sl 2 0 n c), (V.sl 3 0 n d), (V.int .i64 mu)]), (V.ints .u64 (c * 20) hh), (V.ints .u64 (d * 30) gg)])) := by kernel_rfl
abbrev cxl_Kl41 (w1 : Nat) : List V → List V → Prop := OkL Try.prog 1 81 [0, 3, 4] (dropC 0 (lopC (blkC (dropC 0 (takeC 0 (dropC 3 (body Try.f20))))))) (segQ 81 [0, 3, 4] (cxl_Kl4h w1) (blkQ 0 (segQ 81 [] cxl_Ka5 (ends Try.prog Try.f20 (fun v _ => okV (V.bool true) v)))))
theorem cxl_h (w1 : Nat) (ns cs : Nat) (g : Nat → Value) (n c d : Nat) (mu : Int) (hh gg : Nat → Int) (i : Int) (h40 : ns ≤ 40) (hS : ScrC ns g) (p : Nat) (hi : i = (p : Int)) (hp : p ≤ ns) (hQ : PlQ p n c d hh gg) (IHH : p < ns → ∀ (n c d : Nat) (mu : Int) (hh gg : Nat → Int), PlQ (p + 1) n c d hh gg → (cxl_Kl4h w1) [(vS 0 ns cs), (vP 1), (vI (addI .i64 i 1))] [(V.tup [(V.raw (119 * ns) g)]), (V.agg [(V.sl 2 0 n c), (V.sl 3 0 n d), (V.int .i64 mu)]), (V.ints .u64 (c * 20) hh), (V.ints .u64 (d * 30) gg)]) : (cxl_Kl4h (w1 + 1)) [(vS 0 ns cs), (vP 1), (vI i)] [(V.tup [(V.raw (119 * ns) g)]), (V.agg [(V.sl 2 0 n c), (V.sl 3 0 n d), (V.int .i64 mu)]), (V.ints .u64 (c * 20) hh), (V.ints .u64 (d * 30) gg)] := by
  exact okh_round (okl_seg hM qF_ok GL_ok (N := 1200) 0 (by kernel_rfl) (show dropC 0 (lopC (blkC (dropC 0 (takeC 0 (dropC 3 (body Try.f20)))))) = (dropC 0 (lopC (blkC (dropC 0 (takeC 0 (dropC 3 (body Try.f20))))))) by kernel_rfl)  (fun T => Eq.mpr (cxl_h_s ns cs g n c d mu hh gg i T (cxl_Kl41 w1) (cxl_Kl4h w1) cxl_Ka5) (mBt (fun h0 => have g0 := of_decide_eq_true h0; (okl_fst (by kernel_rfl) rfl (by kernel_rfl) (okl_blk (id := 1) (d := (blkC (takeC 0 (dropC 0 (lopC (blkC (dropC 0 (takeC 0 (dropC 3 (body Try.f20)))))))))) (by kernel_rfl) (cxl_0 w1 ns cs g n c d mu hh gg i h40 hS p hi (by omega) hQ (IHH (by omega)))))) (fun h0 => have g0 := of_decide_eq_false h0; (at_gc (ok_gc _ _ _ _) (cxl_5 ns cs g) [0] (by kernel_rfl) (by kernel_rfl) (by kernel_rfl) (fun μ => by kernel_rfl))))))
theorem cxl_hd (ns cs : Nat) (g : Nat → Value) (h40 : ns ≤ 40) (hS : ScrC ns g) : ∀ (w1 p : Nat) (n c d : Nat) (mu : Int) (hh gg : Nat → Int) (i : Int), p + w1 = ns → i = (p : Int) → PlQ p n c d hh gg → (cxl_Kl4h (w1 + 1)) [(vS 0 ns cs), (vP 1), (vI i)] [(V.tup [(V.raw (119 * ns) g)]), (V.agg [(V.sl 2 0 n c), (V.sl 3 0 n d), (V.int .i64 mu)]), (V.ints .u64 (c * 20) hh), (V.ints .u64 (d * 30) gg)]
  | 0, p, n, c, d, mu, hh, gg, i, hp, hi, hQ => cxl_h 0 ns cs g n c d mu hh gg i h40 hS p hi (by omega) hQ (fun h => absurd h (by omega))
  | w1 + 1, p, n, c, d, mu, hh, gg, i, hp, hi, hQ => cxl_h (w1 + 1) ns cs g n c d mu hh gg i h40 hS p hi (by omega) hQ (fun _ n c d mu hh gg hQ => cxl_hd ns cs g h40 hS w1 (p + 1) n c d mu hh gg _ (by omega) (by rw [hi]; exact add1_nat p (by omega)) hQ)
theorem cxl_i_s (ns cs : Nat) (g : Nat → Value) (n c d : Nat) (mu : Int) (hh gg : Nat → Int) (T : List V) (kk k0 : List V → List V → Prop) : awq Try.prog qF GL 1 1200 (takeC 0 (takeC 0 (dropC 3 (body Try.f20)))) (segQ 81 [0, 3, 4] kk (segQ 81 [] k0 (ends Try.prog Try.f20 (fun v _ => okV (V.bool true) v)))) ⟨ovr 81 [0, 3] [(vS 0 ns cs), (vP 1)] T, [(V.tup [(V.raw (119 * ns) g)]), (V.agg [(V.sl 2 0 n c), (V.sl 3 0 n d), (V.int .i64 mu)]), (V.ints .u64 (c * 20) hh), (V.ints .u64 (d * 30) gg)]⟩ = (kk [(vS 0 ns cs), (vP 1), (vI 0)] [(V.tup [(V.raw (119 * ns) g)]), (V.agg [(V.sl 2 0 n c), (V.sl 3 0 n d), (V.int .i64 mu)]), (V.ints .u64 (c * 20) hh), (V.ints .u64 (d * 30) gg)]) := by kernel_rfl
abbrev cxl_Ks40 : List V → List V → Prop := OkL Try.prog 1 81 [0, 3] (takeC 0 (dropC 3 (body Try.f20))) (segQ 81 [] cxl_Ka5 (ends Try.prog Try.f20 (fun v _ => okV (V.bool true) v)))
abbrev cxl_Ks41 : List V → List V → Prop := OkL Try.prog 1 81 [0, 3, 4] (dropC 0 (takeC 0 (dropC 3 (body Try.f20)))) (segQ 81 [] cxl_Ka5 (ends Try.prog Try.f20 (fun v _ => okV (V.bool true) v)))
theorem cxl_i (ns cs : Nat) (g : Nat → Value) (n c d : Nat) (mu : Int) (hh gg : Nat → Int) (h40 : ns ≤ 40) (hS : ScrC ns g) (hQ : PlQ 0 n c d hh gg) : cxl_Ks40 [(vS 0 ns cs), (vP 1)] [(V.tup [(V.raw (119 * ns) g)]), (V.agg [(V.sl 2 0 n c), (V.sl 3 0 n d), (V.int .i64 mu)]), (V.ints .u64 (c * 20) hh), (V.ints .u64 (d * 30) gg)] := by
  exact okl_seg hM qF_ok GL_ok (N := 1200) 0 (by kernel_rfl) (show dropC 0 (takeC 0 (dropC 3 (body Try.f20))) = (dropC 0 (takeC 0 (dropC 3 (body Try.f20)))) by kernel_rfl) (fun T => Eq.mpr (cxl_i_s ns cs g n c d mu hh gg T cxl_Ks41 cxl_Ka5) (okl_blk (id := 0) (d := (blkC (dropC 0 (takeC 0 (dropC 3 (body Try.f20)))))) (by kernel_rfl) (okl_loop (ns + 1) (by kernel_rfl) (cxl_hd ns cs g h40 hS ns 0 n c d mu hh gg 0 (by omega) rfl hQ))))
theorem cxl_s_s (ns cs : Nat) (g : Nat → Value) (T : List V) (kk : List V → List V → Prop) : awq Try.prog qF GL 1 1200 (takeC 3 (body Try.f20)) (segQ 81 [0, 3] kk (ends Try.prog Try.f20 (fun v _ => okV (V.bool true) v))) ⟨ovr 81 [0] [(vS 0 ns cs)] T, [(V.tup [(V.raw (119 * ns) g)])]⟩ = (mB (decide (((ns : Nat) : Int) > 40)) (okV (V.bool true) (V.bool true)) (∀ (cx3 : Nat) (dx4 : Nat), (∀ (hx1 gx2 : Nat → Int), (1 ≤ cx3 ∧ 1 ≤ dx4 ∧ (∀ j, j < 20 → hx1 j = basePO j) ∧ ∀ j, j < 30 → gx2 j = rBasePO j) → (mB (isPO basePO rBasePO) ((1 = 1 ∧ ((cx3 * 20) = cx3 * 20 ∧ (dx4 * 30) = dx4 * 30) ∧ 1 ≤ cx3 ∧ 1 ≤ dx4 ∧ 1 ≤ 200) ∧ (∀ (hx5 gx6 : Nat → Int), (PutR 1 20 hx1 zeroPO hx5 ∧ PutR 1 30 gx2 rZeroPO gx6) → (((2 ≤ cx3 ∧ 2 ≤ dx4) → (mB (!(isPO zeroPO rZeroPO)) (okV (V.bool true) (V.bool false)) (kk [(vS 0 ns cs), (vP 1)] [(V.tup [(V.raw (119 * ns) g)]), (V.agg [(V.sl 2 0 2 cx3), (V.sl 3 0 2 dx4), (V.int .i64 2)]), (V.ints .u64 (cx3 * 20) hx5), (V.ints .u64 (dx4 * 30) gx6)]))) ∧ ((∀ (dx8 : Nat), ((2 ≤ cx3 ∧ 2 ≤ dx8) → (mB (!(isPO zeroPO rZeroPO)) (okV (V.bool true) (V.bool false)) (kk [(vS 0 ns cs), (vP 1)] [(V.tup [(V.raw (119 * ns) g)]), (V.agg [(V.sl 2 0 2 cx3), (V.sl 4 0 2 dx8), (V.int .i64 2)]), (V.ints .u64 (cx3 * 20) hx5), (V.ints .u64 (dx4 * 30) gx2), (V.ints .u64 (dx8 * 30) gx6)])))) ∧ ((∀ (cx7 : Nat), ((2 ≤ cx7 ∧ 2 ≤ dx4) → (mB (!(isPO zeroPO rZeroPO)) (okV (V.bool true) (V.bool false)) (kk [(vS 0 ns cs), (vP 1)] [(V.tup [(V.raw (119 * ns) g)]), (V.agg [(V.sl 4 0 2 cx7), (V.sl 3 0 2 dx4), (V.int .i64 2)]), (V.ints .u64 (cx3 * 20) hx1), (V.ints .u64 (dx4 * 30) gx6), (V.ints .u64 (cx7 * 20) hx5)])))) ∧ (∀ (cx9 : Nat) (dx10 : Nat), ((2 ≤ cx9 ∧ 2 ≤ dx10) → (mB (!(isPO zeroPO rZeroPO)) (okV (V.bool true) (V.bool false)) (kk [(vS 0 ns cs), (vP 1)] [(V.tup [(V.raw (119 * ns) g)]), (V.agg [(V.sl 4 0 2 cx9), (V.sl 5 0 2 dx10), (V.int .i64 2)]), (V.ints .u64 (cx3 * 20) hx1), (V.ints .u64 (dx4 * 30) gx2), (V.ints .u64 (cx9 * 20) hx5), (V.ints .u64 (dx10 * 30) gx6)]))))))))) (okV (V.bool true) (V.bool false)))))) := by kernel_rfl
abbrev cxl_Ka0 : List V → List V → Prop := OkL Try.prog 1 81 [0] (body Try.f20) (ends Try.prog Try.f20 (fun v _ => okV (V.bool true) v))
abbrev cxl_Ka4 : List V → List V → Prop := OkL Try.prog 1 81 [0, 3] (dropC 3 (body Try.f20)) (ends Try.prog Try.f20 (fun v _ => okV (V.bool true) v))
theorem cxl_all (ns cs : Nat) (g : Nat → Value) (hS : ns ≤ 40 → ScrC ns g) : cxl_Ka0 [(vS 0 ns cs)] [(V.tup [(V.raw (119 * ns) g)])] := by
  exact okl_seg hM qF_ok GL_ok (N := 1200) 3 (by kernel_rfl) (show dropC 3 (body Try.f20) = (dropC 3 (body Try.f20)) by kernel_rfl) (fun T => Eq.mpr (cxl_s_s ns cs g T cxl_Ka4) (mBt (fun h0 => have g0 := of_decide_eq_true h0; (okV_bool rfl)) (fun h0 => have g0 := of_decide_eq_false h0; (fun cx3 dx4 => (fun hx1 gx2 q1 => (mBy (is_yes baseP_fm rBase_rm) ⟨⟨rfl, ⟨rfl, rfl⟩, by omega, by omega, by omega⟩, (fun hx5 gx6 q3 => ⟨(fun q4 => (mBn (by rw [is_yes zeroP_fm rZero_rm]; rfl) (okl_fst (by kernel_rfl) rfl (by kernel_rfl) (cxl_i ns cs g 2 cx3 dx4 (2 : Int) hx5 gx6 (by omega) (hS (by omega)) ⟨(PlayI.one q1.2.2 baseP_fm rBase_rm).put q3 zeroP_fm rZero_rm, by omega, by omega, by omega, by omega⟩)))), ⟨(fun dx8 => (fun q4 => (mBn (by rw [is_yes zeroP_fm rZero_rm]; rfl) (at_gc (ok_gc _ _ _ _) (okl_fst (by kernel_rfl) rfl (by kernel_rfl) (cxl_i ns cs g 2 cx3 dx8 (2 : Int) hx5 gx6 (by omega) (hS (by omega)) ⟨(PlayI.one q1.2.2 baseP_fm rBase_rm).put q3 zeroP_fm rZero_rm, by omega, by omega, by omega, by omega⟩)) [0, 1, 2, 4] (by kernel_rfl) (by kernel_rfl) (by kernel_rfl) (fun μ => by kernel_rfl))))), ⟨(fun cx7 => (fun q4 => (mBn (by rw [is_yes zeroP_fm rZero_rm]; rfl) (at_gc (ok_gc _ _ _ _) (okl_fst (by kernel_rfl) rfl (by kernel_rfl) (cxl_i ns cs g 2 cx7 dx4 (2 : Int) hx5 gx6 (by omega) (hS (by omega)) ⟨(PlayI.one q1.2.2 baseP_fm rBase_rm).put q3 zeroP_fm rZero_rm, by omega, by omega, by omega, by omega⟩)) [0, 1, 4, 3] (by kernel_rfl) (by kernel_rfl) (by kernel_rfl) (fun μ => by kernel_rfl))))), (fun cx9 dx10 => (fun q4 => (mBn (by rw [is_yes zeroP_fm rZero_rm]; rfl) (at_gc (ok_gc _ _ _ _) (okl_fst (by kernel_rfl) rfl (by kernel_rfl) (cxl_i ns cs g 2 cx9 dx10 (2 : Int) hx5 gx6 (by omega) (hS (by omega)) ⟨(PlayI.one q1.2.2 baseP_fm rBase_rm).put q3 zeroP_fm rZero_rm, by omega, by omega, by omega, by omega⟩)) [0, 1, 4, 5] (by kernel_rfl) (by kernel_rfl) (by kernel_rfl) (fun μ => by kernel_rfl)))))⟩⟩⟩)⟩))))))
theorem cxn_5_s (T : List V) : awq Try.prog qF GL 0 1200 (dropC 4 (body Try.f20)) (ends Try.prog Try.f20 (fun v _ => okV (V.bool true) v)) ⟨ovr 81 [] [] T, []⟩ = (okV (V.bool true) (V.bool true)) := by kernel_rfl
abbrev cxn_Ka5 : List V → List V → Prop := OkL Try.prog 0 81 [] (dropC 4 (body Try.f20)) (ends Try.prog Try.f20 (fun v _ => okV (V.bool true) v))
theorem cxn_5 : cxn_Ka5 [] [] := by
  exact okl_all hM qF_ok GL_ok (N := 1200) (fun T => Eq.mpr (cxn_5_s  T ) (okV_bool rfl))
abbrev cxn_Kl4h (w1 : Nat) : List V → List V → Prop := OkH Try.prog 0 81 [0, 3, 4] (lopC (blkC (dropC 0 (takeC 0 (dropC 3 (body Try.f20)))))) (blkQ 0 (segQ 81 [] cxn_Ka5 (ends Try.prog Try.f20 (fun v _ => okV (V.bool true) v)))) w1
theorem cxn_h_s (n c d : Nat) (mu : Int) (hh gg : Nat → Int) (T : List V) (kk k0 k1 : List V → List V → Prop) : awq Try.prog qF GL 0 1200 (takeC 0 (lopC (blkC (dropC 0 (takeC 0 (dropC 3 (body Try.f20))))))) (segQ 81 [0, 3, 4] kk (segQ 81 [0, 3, 4] k0 (blkQ 0 (segQ 81 [] k1 (ends Try.prog Try.f20 (fun v _ => okV (V.bool true) v)))))) ⟨ovr 81 [0, 3, 4] [V.snil, (vP 0), (vI 0)] T, [(V.agg [(V.sl 1 0 n c), (V.sl 2 0 n d), (V.int .i64 mu)]), (V.ints .u64 (c * 20) hh), (V.ints .u64 (d * 30) gg)]⟩ = (k1 [] [(V.agg [(V.sl 1 0 n c), (V.sl 2 0 n d), (V.int .i64 mu)]), (V.ints .u64 (c * 20) hh), (V.ints .u64 (d * 30) gg)]) := by kernel_rfl
abbrev cxn_Kl41 (w1 : Nat) : List V → List V → Prop := OkL Try.prog 0 81 [0, 3, 4] (dropC 0 (lopC (blkC (dropC 0 (takeC 0 (dropC 3 (body Try.f20))))))) (segQ 81 [0, 3, 4] (cxn_Kl4h w1) (blkQ 0 (segQ 81 [] cxn_Ka5 (ends Try.prog Try.f20 (fun v _ => okV (V.bool true) v)))))
theorem cxn_h (w1 : Nat) (n c d : Nat) (mu : Int) (hh gg : Nat → Int) : (cxn_Kl4h (w1 + 1)) [V.snil, (vP 0), (vI 0)] [(V.agg [(V.sl 1 0 n c), (V.sl 2 0 n d), (V.int .i64 mu)]), (V.ints .u64 (c * 20) hh), (V.ints .u64 (d * 30) gg)] := by
  exact okh_round (okl_seg hM qF_ok GL_ok (N := 1200) 0 (by kernel_rfl) (show dropC 0 (lopC (blkC (dropC 0 (takeC 0 (dropC 3 (body Try.f20)))))) = (dropC 0 (lopC (blkC (dropC 0 (takeC 0 (dropC 3 (body Try.f20))))))) by kernel_rfl)  (fun T => Eq.mpr (cxn_h_s n c d mu hh gg T (cxn_Kl41 w1) (cxn_Kl4h w1) cxn_Ka5) (at_gc (ok_gc _ _ _ _) cxn_5 [] (by kernel_rfl) (by kernel_rfl) (by kernel_rfl) (fun μ => by kernel_rfl))))
theorem cxn_i_s (n c d : Nat) (mu : Int) (hh gg : Nat → Int) (T : List V) (kk k0 : List V → List V → Prop) : awq Try.prog qF GL 0 1200 (takeC 0 (takeC 0 (dropC 3 (body Try.f20)))) (segQ 81 [0, 3, 4] kk (segQ 81 [] k0 (ends Try.prog Try.f20 (fun v _ => okV (V.bool true) v)))) ⟨ovr 81 [0, 3] [V.snil, (vP 0)] T, [(V.agg [(V.sl 1 0 n c), (V.sl 2 0 n d), (V.int .i64 mu)]), (V.ints .u64 (c * 20) hh), (V.ints .u64 (d * 30) gg)]⟩ = (kk [V.snil, (vP 0), (vI 0)] [(V.agg [(V.sl 1 0 n c), (V.sl 2 0 n d), (V.int .i64 mu)]), (V.ints .u64 (c * 20) hh), (V.ints .u64 (d * 30) gg)]) := by kernel_rfl
abbrev cxn_Ks40 : List V → List V → Prop := OkL Try.prog 0 81 [0, 3] (takeC 0 (dropC 3 (body Try.f20))) (segQ 81 [] cxn_Ka5 (ends Try.prog Try.f20 (fun v _ => okV (V.bool true) v)))
abbrev cxn_Ks41 : List V → List V → Prop := OkL Try.prog 0 81 [0, 3, 4] (dropC 0 (takeC 0 (dropC 3 (body Try.f20)))) (segQ 81 [] cxn_Ka5 (ends Try.prog Try.f20 (fun v _ => okV (V.bool true) v)))
theorem cxn_i (n c d : Nat) (mu : Int) (hh gg : Nat → Int) : cxn_Ks40 [V.snil, (vP 0)] [(V.agg [(V.sl 1 0 n c), (V.sl 2 0 n d), (V.int .i64 mu)]), (V.ints .u64 (c * 20) hh), (V.ints .u64 (d * 30) gg)] := by
  exact okl_seg hM qF_ok GL_ok (N := 1200) 0 (by kernel_rfl) (show dropC 0 (takeC 0 (dropC 3 (body Try.f20))) = (dropC 0 (takeC 0 (dropC 3 (body Try.f20)))) by kernel_rfl) (fun T => Eq.mpr (cxn_i_s n c d mu hh gg T cxn_Ks41 cxn_Ka5) (okl_blk (id := 0) (d := (blkC (dropC 0 (takeC 0 (dropC 3 (body Try.f20)))))) (by kernel_rfl) (okl_loop 1 (by kernel_rfl) (cxn_h 0 n c d mu hh gg))))
theorem cxn_s_s (T : List V) (kk : List V → List V → Prop) : awq Try.prog qF GL 0 1200 (takeC 3 (body Try.f20)) (segQ 81 [0, 3] kk (ends Try.prog Try.f20 (fun v _ => okV (V.bool true) v))) ⟨ovr 81 [0] [V.snil] T, []⟩ = (∀ (cx3 : Nat) (dx4 : Nat), (∀ (hx1 gx2 : Nat → Int), (1 ≤ cx3 ∧ 1 ≤ dx4 ∧ (∀ j, j < 20 → hx1 j = basePO j) ∧ ∀ j, j < 30 → gx2 j = rBasePO j) → (mB (isPO basePO rBasePO) ((1 = 1 ∧ ((cx3 * 20) = cx3 * 20 ∧ (dx4 * 30) = dx4 * 30) ∧ 1 ≤ cx3 ∧ 1 ≤ dx4 ∧ 1 ≤ 200) ∧ (∀ (hx5 gx6 : Nat → Int), (PutR 1 20 hx1 zeroPO hx5 ∧ PutR 1 30 gx2 rZeroPO gx6) → (((2 ≤ cx3 ∧ 2 ≤ dx4) → (mB (!(isPO zeroPO rZeroPO)) (okV (V.bool true) (V.bool false)) (kk [V.snil, (vP 0)] [(V.agg [(V.sl 1 0 2 cx3), (V.sl 2 0 2 dx4), (V.int .i64 2)]), (V.ints .u64 (cx3 * 20) hx5), (V.ints .u64 (dx4 * 30) gx6)]))) ∧ ((∀ (dx8 : Nat), ((2 ≤ cx3 ∧ 2 ≤ dx8) → (mB (!(isPO zeroPO rZeroPO)) (okV (V.bool true) (V.bool false)) (kk [V.snil, (vP 0)] [(V.agg [(V.sl 1 0 2 cx3), (V.sl 3 0 2 dx8), (V.int .i64 2)]), (V.ints .u64 (cx3 * 20) hx5), (V.ints .u64 (dx4 * 30) gx2), (V.ints .u64 (dx8 * 30) gx6)])))) ∧ ((∀ (cx7 : Nat), ((2 ≤ cx7 ∧ 2 ≤ dx4) → (mB (!(isPO zeroPO rZeroPO)) (okV (V.bool true) (V.bool false)) (kk [V.snil, (vP 0)] [(V.agg [(V.sl 3 0 2 cx7), (V.sl 2 0 2 dx4), (V.int .i64 2)]), (V.ints .u64 (cx3 * 20) hx1), (V.ints .u64 (dx4 * 30) gx6), (V.ints .u64 (cx7 * 20) hx5)])))) ∧ (∀ (cx9 : Nat) (dx10 : Nat), ((2 ≤ cx9 ∧ 2 ≤ dx10) → (mB (!(isPO zeroPO rZeroPO)) (okV (V.bool true) (V.bool false)) (kk [V.snil, (vP 0)] [(V.agg [(V.sl 3 0 2 cx9), (V.sl 4 0 2 dx10), (V.int .i64 2)]), (V.ints .u64 (cx3 * 20) hx1), (V.ints .u64 (dx4 * 30) gx2), (V.ints .u64 (cx9 * 20) hx5), (V.ints .u64 (dx10 * 30) gx6)]))))))))) (okV (V.bool true) (V.bool false))))) := by kernel_rfl
abbrev cxn_Ka0 : List V → List V → Prop := OkL Try.prog 0 81 [0] (body Try.f20) (ends Try.prog Try.f20 (fun v _ => okV (V.bool true) v))
abbrev cxn_Ka4 : List V → List V → Prop := OkL Try.prog 0 81 [0, 3] (dropC 3 (body Try.f20)) (ends Try.prog Try.f20 (fun v _ => okV (V.bool true) v))
theorem cxn_all : cxn_Ka0 [V.snil] [] := by
  exact okl_seg hM qF_ok GL_ok (N := 1200) 3 (by kernel_rfl) (show dropC 3 (body Try.f20) = (dropC 3 (body Try.f20)) by kernel_rfl) (fun T => Eq.mpr (cxn_s_s  T cxn_Ka4) (fun cx3 dx4 => (fun hx1 gx2 q0 => (mBy (is_yes baseP_fm rBase_rm) ⟨⟨rfl, ⟨rfl, rfl⟩, by omega, by omega, by omega⟩, (fun hx5 gx6 q2 => ⟨(fun q3 => (mBn (by rw [is_yes zeroP_fm rZero_rm]; rfl) (okl_fst (by kernel_rfl) rfl (by kernel_rfl) (cxn_i 2 cx3 dx4 (2 : Int) hx5 gx6)))), ⟨(fun dx8 => (fun q3 => (mBn (by rw [is_yes zeroP_fm rZero_rm]; rfl) (at_gc (ok_gc _ _ _ _) (okl_fst (by kernel_rfl) rfl (by kernel_rfl) (cxn_i 2 cx3 dx8 (2 : Int) hx5 gx6)) [0, 1, 3] (by kernel_rfl) (by kernel_rfl) (by kernel_rfl) (fun μ => by kernel_rfl))))), ⟨(fun cx7 => (fun q3 => (mBn (by rw [is_yes zeroP_fm rZero_rm]; rfl) (at_gc (ok_gc _ _ _ _) (okl_fst (by kernel_rfl) rfl (by kernel_rfl) (cxn_i 2 cx7 dx4 (2 : Int) hx5 gx6)) [0, 3, 2] (by kernel_rfl) (by kernel_rfl) (by kernel_rfl) (fun μ => by kernel_rfl))))), (fun cx9 dx10 => (fun q3 => (mBn (by rw [is_yes zeroP_fm rZero_rm]; rfl) (at_gc (ok_gc _ _ _ _) (okl_fst (by kernel_rfl) rfl (by kernel_rfl) (cxn_i 2 cx9 dx10 (2 : Int) hx5 gx6)) [0, 3, 4] (by kernel_rfl) (by kernel_rfl) (by kernel_rfl) (fun μ => by kernel_rfl)))))⟩⟩⟩)⟩))))
end Go.Proofs.Ytbnclikjbnfodaa

/-
  The script of ops, opened. Conditions: none.
-/
namespace Go.Proofs.Ytbnclikjbnfodaa
open Go.Ev Go.Num Go.ChangeShapes Go.WideShapes Go.ChangeAt Go.RowKit
set_option linter.unusedVariables false
set_option linter.unusedSimpArgs false

section
variable {H : Type} {enc : TypeId × Value → H} {P : Program} {w : World} {base : Nat} {spare : Nat → Bool} {held : Bool}
/-- The cells of an array of integers. -/
theorem arr_cells {t e : TypeId} {k : IntKind} {n fuel : Nat} {cs : List Value} {x : DataW H × List MemPlace} (ht : P.underlying t = some (.array n e)) (he : P.underlying e = some (.int k)) (hc : P.cellsOf e = 1)
    (h : DataW.trod enc P w base spare held fuel t cs = some x) : ∀ i, i < n → ∃ q, cs[i]? = some (.int k q) ∧ (Lit.int k q).wf = true := by
  obtain ⟨xs, m, rfl, _, _, hxl, hel⟩ := DataW.trod_array ht h
  intro i hi
  have h1 := hel i hi
  rw [hc, Nat.mul_one, List.getElem?_eq_getElem (by omega)] at h1
  obtain ⟨q, e1, _, e3⟩ := DataW.trod_int he h1
  refine ⟨q, ?_, e3⟩
  have := congrArg (fun l => l[0]?) e1
  simpa [List.getElem?_take, List.getElem?_drop] using this
theorem win_cell {cs : List Value} {o n i : Nat} {v : Value} (h : ((cs.drop o).take n)[i]? = some v) : cs[o + i]? = some v := by
  rw [List.getElem?_take] at h
  split at h
  · rwa [List.getElem?_drop] at h
  · cases h
end
theorem cell3 : Try.prog.cellsOf 3 = 1 := by kernel_rfl
theorem cell5 : Try.prog.cellsOf 5 = 1 := by kernel_rfl
theorem cell22 : Try.prog.cellsOf 22 = 1 := by kernel_rfl
theorem cell100 : Try.prog.cellsOf 100 = 119 := by kernel_rfl
section
variable {H : Type} {enc : TypeId × Value → H} {w : World} {base : Nat} {spare : Nat → Bool} {held : Bool}
/-- A point's cells. -/
theorem point_cells {fuel : Nat} {cs : List Value} {x : DataW H × List MemPlace} (h : DataW.trod enc Try.prog w base spare held fuel 63 cs = some x) : ∀ i, i < 20 → ∃ q, cs[i]? = some (.int .u64 q) ∧ (Lit.int .u64 q).wf = true := by
  obtain ⟨xs, n, _, _, _, hxl, hf⟩ := DataW.trod_struct Try.underlying63 h
  have hxl : xs.length = 4 := hxl
  have h0 := hf 0 _ rfl
  have h1 := hf 1 _ rfl
  have h2 := hf 2 _ rfl
  have h3 := hf 3 _ rfl
  rw [List.getElem?_eq_getElem (by omega)] at h0 h1 h2 h3
  have a0 := arr_cells Try.underlying24 Try.underlying22 cell22 h0
  have a1 := arr_cells Try.underlying24 Try.underlying22 cell22 h1
  have a2 := arr_cells Try.underlying24 Try.underlying22 cell22 h2
  have a3 := arr_cells Try.underlying24 Try.underlying22 cell22 h3
  have key : ∀ (o : Nat), (∀ i, i < 5 → ∃ q, ((cs.drop o).take (Try.prog.cellsOf 24))[i]? = some (.int .u64 q) ∧ (Lit.int .u64 q).wf = true) → ∀ i, i < 5 → ∃ q, cs[o + i]? = some (.int .u64 q) ∧ (Lit.int .u64 q).wf = true := fun o h i hi => by
    obtain ⟨q, h1, h2⟩ := h i hi
    exact ⟨q, win_cell h1, h2⟩
  intro i hi
  by_cases c0 : i < 5
  · have := key 0 a0 i c0; rwa [Nat.zero_add] at this
  by_cases c1 : i < 10
  · have := key 5 a1 (i - 5) (by omega); rwa [show 5 + (i - 5) = i by omega] at this
  by_cases c2 : i < 15
  · have := key 10 a2 (i - 10) (by omega); rwa [show 10 + (i - 10) = i by omega] at this
  · have := key 15 a3 (i - 15) (by omega); rwa [show 15 + (i - 15) = i by omega] at this
/-- An op's cells. -/
theorem op_cells {fuel : Nat} {cs : List Value} {x : DataW H × List MemPlace} (h : DataW.trod enc Try.prog w base spare held fuel 100 cs = some x) :
    (∀ i, i < 3 → ∃ q, cs[i]? = some (.int .i64 q)) ∧ (∀ i, i < 96 → ∃ q, cs[3 + i]? = some (.int .u8 q) ∧ (Lit.int .u8 q).wf = true) ∧ ∀ i, i < 20 → ∃ q, cs[99 + i]? = some (.int .u64 q) ∧ (Lit.int .u64 q).wf = true := by
  obtain ⟨xs, n, _, _, _, hxl, hf⟩ := DataW.trod_struct Try.underlying100 h
  have hxl : xs.length = 7 := hxl
  have h0 := hf 0 _ rfl
  have h1 := hf 1 _ rfl
  have h2 := hf 2 _ rfl
  have h3 := hf 3 _ rfl
  have h4 := hf 4 _ rfl
  have h5 := hf 5 _ rfl
  have h6 := hf 6 _ rfl
  rw [List.getElem?_eq_getElem (by omega)] at h0 h1 h2 h3 h4 h5 h6
  obtain ⟨q0, i0, _⟩ := DataW.trod_int Try.underlying3 h0
  obtain ⟨q1, i1, _⟩ := DataW.trod_int Try.underlying3 h1
  obtain ⟨q2, i2, _⟩ := DataW.trod_int Try.underlying3 h2
  have a3 := arr_cells Try.underlying73 Try.underlying5 cell5 h3
  have a4 := arr_cells Try.underlying73 Try.underlying5 cell5 h4
  have a5 := arr_cells Try.underlying61 Try.underlying5 cell5 h5
  have a6 := point_cells h6
  have key : ∀ (o m N : Nat) (k : IntKind), (∀ i, i < N → ∃ q, ((cs.drop o).take m)[i]? = some (.int k q) ∧ (Lit.int k q).wf = true) → ∀ i, i < N → ∃ q, cs[o + i]? = some (.int k q) ∧ (Lit.int k q).wf = true := fun o m N k h i hi => by
    obtain ⟨q, h1, h2⟩ := h i hi
    exact ⟨q, win_cell h1, h2⟩
  refine ⟨fun i hi => ?_, fun i hi => ?_, key 99 _ 20 _ a6⟩
  · have one : ∀ {o : Nat} {q : Int}, (cs.drop o).take (Try.prog.cellsOf 3) = [.int .i64 q] → cs[o]? = some (.int .i64 q) := fun {o q} h => by
      have := win_cell (cs := cs) (o := o) (n := Try.prog.cellsOf 3) (i := 0) (v := .int .i64 q) (by rw [h]; rfl)
      simpa using this
    match i, hi with
    | 0, _ => exact ⟨q0, one i0⟩
    | 1, _ => exact ⟨q1, one i1⟩
    | 2, _ => exact ⟨q2, one i2⟩
  · by_cases c0 : i < 32
    · exact key 3 _ 32 _ a3 i c0
    by_cases c1 : i < 64
    · have := key 35 _ 32 _ a4 (i - 32) (by omega); rwa [show 35 + (i - 32) = 3 + i by omega] at this
    · have := key 67 _ 32 _ a5 (i - 64) (by omega); rwa [show 67 + (i - 64) = 3 + i by omega] at this
end
theorem ks_app : ∀ {a b : List Kd} {g : Nat → Value} {o : Nat}, okKs a g o = true → okKs b g (o + a.length) = true → okKs (a ++ b) g o = true
  | [], _, _, _, _, h => h
  | k :: a, b, g, o, h, h2 => by
    simp only [List.cons_append, okKs, Bool.and_eq_true] at h ⊢
    exact ⟨h.1, ks_app h.2 (by rwa [show o + (k :: a).length = o + 1 + a.length by simp; omega] at h2)⟩
theorem ks_rep {k : Kd} {g : Nat → Value} : ∀ {n o : Nat}, (∀ j, j < n → isK k (g (o + j)) = true) → okKs (List.replicate n k) g o = true
  | 0, _, _ => rfl
  | n + 1, o, h => by
    simp only [List.replicate_succ, okKs, Bool.and_eq_true]
    exact ⟨h 0 (by omega), ks_rep fun j hj => by have := h (j + 1) (by omega); rwa [show o + (j + 1) = o + 1 + j by omega] at this⟩
theorem isK_int {k : IntKind} {n : Int} : isK (.int k) (.int k n) = true := by cases k <;> rfl
/-- What is told of an op, from its cells. -/
theorem op_told {g : Nat → Value} {o : Nat} (h : (∀ i, i < 3 → ∃ q, g (o + i) = .int .i64 q) ∧ (∀ i, i < 96 → ∃ q, g (o + (3 + i)) = .int .u8 q ∧ (Lit.int .u8 q).wf = true) ∧ ∀ i, i < 20 → ∃ q, g (o + (99 + i)) = .int .u64 q ∧ (Lit.int .u64 q).wf = true) :
    okKs opKs g o = true ∧ (∀ i, i < 96 → 0 ≤ gI (g (o + (3 + i))) ∧ gI (g (o + (3 + i))) < 256) ∧ ∀ i, i < 20 → 0 ≤ gI (g (o + (99 + i))) ∧ gI (g (o + (99 + i))) < 18446744073709551616 := by
  obtain ⟨h1, h2, h3⟩ := h
  refine ⟨?_, fun i hi => ?_, fun i hi => ?_⟩
  · unfold opKs
    refine ks_app (ks_app (ks_rep fun j hj => ?_) (ks_rep fun j hj => ?_)) (ks_rep fun j hj => ?_)
    · obtain ⟨q, hq⟩ := h1 j hj; rw [hq]; exact isK_int
    · obtain ⟨q, hq, _⟩ := h2 j hj; rw [List.length_replicate, show o + 3 + j = o + (3 + j) by omega, hq]; exact isK_int
    · obtain ⟨q, hq, _⟩ := h3 j hj; rw [show (List.replicate 3 (Kd.int .i64) ++ List.replicate 96 (Kd.int .u8)).length = 99 from rfl, show o + 99 + j = o + (99 + j) by omega, hq]; exact isK_int
  · obtain ⟨q, hq, hw⟩ := h2 i hi; rw [hq]; exact wf_u8 hw
  · obtain ⟨q, hq, hw⟩ := h3 i hi; rw [hq]; exact wf_u64 hw
theorem op_k {u : Nat → Value} (h : (∀ i, i < 3 → ∃ q, u i = .int .i64 q) ∧ (∀ i, i < 96 → ∃ q, u (3 + i) = .int .u8 q ∧ (Lit.int .u8 q).wf = true) ∧ ∀ i, i < 20 → ∃ q, u (99 + i) = .int .u64 q ∧ (Lit.int .u64 q).wf = true) : OpK u := by
  obtain ⟨h1, h2, h3⟩ := op_told (g := u) (o := 0) (by simp only [Nat.zero_add]; exact h)
  simp only [Nat.zero_add] at h2 h3
  refine ⟨h1, fun j hj => ?_, fun j hj => ?_, fun j hj => ?_, ?_⟩
  · exact h2 j (by omega)
  · have := h2 (32 + j) (by omega); rw [show 3 + (32 + j) = 35 + j by omega] at this; exact this
  · have := h2 (64 + j) (by omega); rw [show 3 + (64 + j) = 67 + j by omega] at this; exact this
  · have key : ∀ o, o + 5 ≤ 20 → U5 (sh o (gIs u 99)) := fun o ho j hj => by rw [sh_at]; exact h3 (o + j) (by omega)
    exact ⟨key 0 (by omega), key 5 (by omega), key 10 (by omega), key 15 (by omega)⟩
set_option maxRecDepth 100000 in
theorem ops_open {H : Type} {enc : TypeId × Value → H} {W : World} {base : Nat} {v : Value} {d : DataW H} {p : List MemPlace} (hv : Value.okWide Try.prog W .any base 93 v) (h : DataW.Trod enc Try.prog W 0 (fun _ => true) true 93 v d p) :
    v = .slice none 0 0 ∨ ∃ b o k c g, v = .slice (some ⟨b, o, none⟩) k c ∧ Seen W b o (.raw (119 * k) g) ∧ ScrC k g := by
  rcases open_rows Try.underlying93 hv h with h0 | ⟨b, o, k, c, h0, hb, hk, _, hR⟩
  · exact .inl h0
  · obtain ⟨g, hg⟩ : ∃ g : Nat → Value, ∀ x, g x = (W.cell? ⟨b, o + x, none⟩).getD undef := ⟨_, fun _ => rfl⟩
    refine .inr ⟨b, o, k, c, g, h0, ⟨rfl, rfl, rfl, hb, fun j c' hc => ?_⟩, fun i hi => ?_⟩
    · rw [cells_raw] at hc
      simp only [List.getElem?_toArray, List.getElem?_map, Option.map_eq_some_iff] at hc
      obtain ⟨j', hj, rfl⟩ := hc
      obtain ⟨h1, h2⟩ := List.getElem?_eq_some_iff.1 hj
      simp at h1 h2
      subst h2
      obtain ⟨n, l, y, _, hl, hc⟩ := hR (j / 119) (by omega)
      rw [cell100] at hl hc
      have h8 := hc (j % 119) _ (List.getElem?_eq_getElem (by omega))
      rw [show o + j / 119 * 119 + j % 119 = o + j by omega] at h8
      rw [hg, h8]; rfl
    · obtain ⟨n, l, y, ht, hl, hc⟩ := hR i (by omega)
      rw [cell100] at hl hc
      have hgc : ∀ j v, l[j]? = some v → g (119 * i + j) = v := fun j v hj => by
        have := hc j v hj
        rw [show o + i * 119 + j = o + (119 * i + j) by omega] at this
        rw [hg, this]; rfl
      obtain ⟨c1, c2, c3⟩ := op_cells ht
      have d1 : ∀ j, j < 3 → ∃ q, g (119 * i + j) = .int .i64 q := fun j hj => by obtain ⟨q, hq⟩ := c1 j hj; exact ⟨q, hgc _ _ hq⟩
      have d2 : ∀ j, j < 96 → ∃ q, g (119 * i + (3 + j)) = .int .u8 q ∧ (Lit.int .u8 q).wf = true := fun j hj => by obtain ⟨q, hq, hw⟩ := c2 j hj; exact ⟨q, hgc _ _ hq, hw⟩
      have d3 : ∀ j, j < 20 → ∃ q, g (119 * i + (99 + j)) = .int .u64 q ∧ (Lit.int .u64 q).wf = true := fun j hj => by obtain ⟨q, hq, hw⟩ := c3 j hj; exact ⟨q, hgc _ _ hq, hw⟩
      exact ⟨(op_told ⟨d1, d2, d3⟩).1, op_k ⟨fun j hj => by rw [sh_at]; exact d1 j hj, fun j hj => by rw [sh_at]; exact d2 j hj, fun j hj => by rw [sh_at]; exact d3 j hj⟩⟩
end Go.Proofs.Ytbnclikjbnfodaa
