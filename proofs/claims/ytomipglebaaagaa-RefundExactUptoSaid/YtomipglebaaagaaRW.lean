/-
  The law Exact: no script; the script, opened. Conditions: none.
-/
import Derived.Test.YtomipglebaaagaaRV
import Derived.Test.YtomipglebaaagaaFvU
namespace Go.Proofs.Ytomipglebaaagaa
open Go.Ev
set_option linter.unusedVariables false
set_option linter.unusedSimpArgs false
theorem exn_9_s (se ri ga : Int) (T : List V) : awq Try.prog fA GEx 0 1200 (dropC 8 (body Try.f5)) (ends Try.prog Try.f5 (fun v _ => okV (V.bool true) v)) ⟨ovr 87 [] [] T, []⟩ = (okV (V.bool true) (V.bool true)) := by kernel_rfl
abbrev exn_Ka9 : List V → List V → Prop := OkL Try.prog 0 87 [] (dropC 8 (body Try.f5)) (ends Try.prog Try.f5 (fun v _ => okV (V.bool true) v))
theorem exn_9 (se ri ga : Int) : exn_Ka9 [] [] := by
  exact okl_all hM fA_ok GEx_ok (N := 1200) (fun T => Eq.mpr (exn_9_s se ri ga T ) (okV_bool rfl))
abbrev exn_Kl8h (w1 : Nat) : List V → List V → Prop := OkH Try.prog 0 87 [3, 13, 15] (lopC (blkC (dropC 0 (takeC 0 (dropC 7 (body Try.f5)))))) (blkQ 0 (segQ 87 [] exn_Ka9 (ends Try.prog Try.f5 (fun v _ => okV (V.bool true) v)))) w1
theorem exn_h_s (se ri ga : Int) (n cc : Nat) (tx : Int) (hh : Nat → Bool) (T : List V) (kk k0 k1 : List V → List V → Prop) : awq Try.prog fA GEx 0 1200 (takeC 0 (lopC (blkC (dropC 0 (takeC 0 (dropC 7 (body Try.f5))))))) (segQ 87 [3, 13, 15] kk (segQ 87 [3, 13, 15] k0 (blkQ 0 (segQ 87 [] k1 (ends Try.prog Try.f5 (fun v _ => okV (V.bool true) v)))))) ⟨ovr 87 [3, 13, 15] [V.snil, (vP 0), (vI 0)] T, [(rf se ri 1 n cc tx), (vB cc hh)]⟩ = (k1 [] [(rf se ri 1 n cc tx), (vB cc hh)]) := by kernel_rfl
abbrev exn_Kl81 (w1 : Nat) : List V → List V → Prop := OkL Try.prog 0 87 [3, 13, 15] (dropC 0 (lopC (blkC (dropC 0 (takeC 0 (dropC 7 (body Try.f5))))))) (segQ 87 [3, 13, 15] (exn_Kl8h w1) (blkQ 0 (segQ 87 [] exn_Ka9 (ends Try.prog Try.f5 (fun v _ => okV (V.bool true) v)))))
theorem exn_h (w1 : Nat) (se ri ga : Int) (n cc : Nat) (tx : Int) (hh : Nat → Bool) : (exn_Kl8h (w1 + 1)) [V.snil, (vP 0), (vI 0)] [(rf se ri 1 n cc tx), (vB cc hh)] := by
  exact okh_round (okl_seg hM fA_ok GEx_ok (N := 1200) 0 (by kernel_rfl) (show dropC 0 (lopC (blkC (dropC 0 (takeC 0 (dropC 7 (body Try.f5)))))) = (dropC 0 (lopC (blkC (dropC 0 (takeC 0 (dropC 7 (body Try.f5))))))) by kernel_rfl)  (fun T => Eq.mpr (exn_h_s se ri ga n cc tx hh T (exn_Kl81 w1) (exn_Kl8h w1) exn_Ka9) (at_gc (ok_gc _ _ _ _) (exn_9 se ri ga) [] (by kernel_rfl) (by kernel_rfl) (by kernel_rfl) (fun μ => by kernel_rfl))))
theorem exn_i8_s (se ri ga : Int) (n cc : Nat) (tx : Int) (hh : Nat → Bool) (T : List V) (kk k0 : List V → List V → Prop) : awq Try.prog fA GEx 0 1200 (takeC 0 (takeC 0 (dropC 7 (body Try.f5)))) (segQ 87 [3, 13, 15] kk (segQ 87 [] k0 (ends Try.prog Try.f5 (fun v _ => okV (V.bool true) v)))) ⟨ovr 87 [3, 13] [V.snil, (vP 0)] T, [(rf se ri 1 n cc tx), (vB cc hh)]⟩ = (kk [V.snil, (vP 0), (vI 0)] [(rf se ri 1 n cc tx), (vB cc hh)]) := by kernel_rfl
abbrev exn_Ks80 : List V → List V → Prop := OkL Try.prog 0 87 [3, 13] (takeC 0 (dropC 7 (body Try.f5))) (segQ 87 [] exn_Ka9 (ends Try.prog Try.f5 (fun v _ => okV (V.bool true) v)))
abbrev exn_Ks81 : List V → List V → Prop := OkL Try.prog 0 87 [3, 13, 15] (dropC 0 (takeC 0 (dropC 7 (body Try.f5)))) (segQ 87 [] exn_Ka9 (ends Try.prog Try.f5 (fun v _ => okV (V.bool true) v)))
theorem exn_i8 (se ri ga : Int) (n cc : Nat) (tx : Int) (hh : Nat → Bool) : exn_Ks80 [V.snil, (vP 0)] [(rf se ri 1 n cc tx), (vB cc hh)] := by
  exact okl_seg hM fA_ok GEx_ok (N := 1200) 0 (by kernel_rfl) (show dropC 0 (takeC 0 (dropC 7 (body Try.f5))) = (dropC 0 (takeC 0 (dropC 7 (body Try.f5)))) by kernel_rfl) (fun T => Eq.mpr (exn_i8_s se ri ga n cc tx hh T exn_Ks81 exn_Ka9) (okl_blk (id := 0) (d := (blkC (dropC 0 (takeC 0 (dropC 7 (body Try.f5)))))) (by kernel_rfl) (okl_loop 1 (by kernel_rfl) (exn_h 0 se ri ga n cc tx hh))))
theorem exn_s_s (se ri ga : Int) (T : List V) (kk : List V → List V → Prop) : awq Try.prog fA GEx 0 1200 (takeC 7 (body Try.f5)) (segQ 87 [3, 13] kk (ends Try.prog Try.f5 (fun v _ => okV (V.bool true) v))) ⟨ovr 87 [0, 1, 2, 3] [(vI se), (vI ri), (vI ga), V.snil] T, []⟩ = (mB (begO se ri ga) (∀ (e1 : Nat), (∀ (ff2 : Nat → Bool), (∀ j, j < (Int.toNat ga) → ff2 j = false) → (mB (begO se ri ga) (∀ (e3 : Nat), (∀ (ff4 : Nat → Bool), (∀ j, j < (Int.toNat ga) → ff4 j = false) → (mB (begO se ri ga) (∀ (e5 : Nat), (∀ (ff6 : Nat → Bool), (∀ j, j < (Int.toNat ga) → ff6 j = false) → (((e1 + (Int.toNat ga)) = (e1 + (Int.toNat ga)) ∧ ((se = se ∧ ri = ri ∧ (0 : Int) = 0 ∧ (Int.toNat ga) = (Int.toNat ga)) ∧ se = se ∧ ri = ri ∧ (0 : Int) = 0 ∧ (Int.toNat ga) = (Int.toNat ga)) ∧ ((Int.toNat ga) ≠ 0 ∧ (Int.toNat ga) ≤ (e1 + (Int.toNat ga)) ∧ (Int.toNat ga) ≤ ((e3 + (Int.toNat ga)) - 0) ∧ (Int.toNat ga) ≤ ((e5 + (Int.toNat ga)) - 0) ∧ (Int.toNat ga) ≤ 1000) ∧ (∀ j, j < (Int.toNat ga) → ff4 j = ff6 j) ∧ ∀ j, j < (Int.toNat ga) → ff2 j = ff6 j) ∧ (∀ (ff7 : Nat → Bool), (gB (Nat.ble (Int.toNat ga) (e5 + (Int.toNat ga)) && Nat.ble (Int.toNat ga) 1000) (kk [V.snil, (vP 5)] [(vB (e1 + (Int.toNat ga)) ff7), (rf se ri 0 (Int.toNat ga) (e1 + (Int.toNat ga)) 0), (vB (e3 + (Int.toNat ga)) ff4), (rf se ri 2 (Int.toNat ga) (e3 + (Int.toNat ga)) 0), (vB (e5 + (Int.toNat ga)) ff6), (rf se ri 4 (Int.toNat ga) (e5 + (Int.toNat ga)) 0)])))))) (okV (V.bool true) (V.bool false))))) (mB (begO se ri ga) (∀ (e8 : Nat), (∀ (ff9 : Nat → Bool), (∀ j, j < (Int.toNat ga) → ff9 j = false) → False)) (okV (V.bool true) (V.bool false)))))) (mB (begO se ri ga) (∀ (e10 : Nat), (∀ (ff11 : Nat → Bool), (∀ j, j < (Int.toNat ga) → ff11 j = false) → (mB (begO se ri ga) (∀ (e12 : Nat), (∀ (ff13 : Nat → Bool), (∀ j, j < (Int.toNat ga) → ff13 j = false) → (okV (V.bool true) (V.bool false)))) False))) (mB (begO se ri ga) (∀ (e14 : Nat), (∀ (ff15 : Nat → Bool), (∀ j, j < (Int.toNat ga) → ff15 j = false) → (okV (V.bool true) (V.bool false)))) ((zz3 0 0 0 ∧ zz3 0 0 0 ∧ zz3 0 0 0) ∧ (okV (V.bool true) (V.bool true)))))) := by kernel_rfl
abbrev exn_Ka0 : List V → List V → Prop := OkL Try.prog 0 87 [0, 1, 2, 3] (body Try.f5) (ends Try.prog Try.f5 (fun v _ => okV (V.bool true) v))
abbrev exn_Ka8 : List V → List V → Prop := OkL Try.prog 0 87 [3, 13] (dropC 7 (body Try.f5)) (ends Try.prog Try.f5 (fun v _ => okV (V.bool true) v))
theorem exn_all (se ri ga : Int) : exn_Ka0 [(vI se), (vI ri), (vI ga), V.snil] [] := by
  exact okl_seg hM fA_ok GEx_ok (N := 1200) 7 (by kernel_rfl) (show dropC 7 (body Try.f5) = (dropC 7 (body Try.f5)) by kernel_rfl) (fun T => Eq.mpr (exn_s_s se ri ga T exn_Ka8) (mBt (fun h0 => (fun e1 => (fun ff2 q1 => (mBy h0 (fun e3 => (fun ff4 q3 => (mBy h0 (fun e5 => (fun ff6 q5 => ⟨⟨rfl, ⟨⟨rfl, rfl, rfl, rfl⟩, rfl, rfl, rfl, rfl⟩, ⟨by have := bg_is h0; omega, by omega, by omega, by omega, by have := bg_is h0; omega⟩, fun j hj => (q3 j hj).trans (q5 j hj).symm, fun j hj => (q1 j hj).trans (q5 j hj).symm⟩, (fun ff7 => (gm (both (bleT.2 (by first | omega | (have := bg_is h0; omega) | (have := bg_is h1; omega) | (have := bg_is h2; omega))) (bleT.2 (by first | omega | (have := bg_is h0; omega) | (have := bg_is h1; omega) | (have := bg_is h2; omega)))) (at_gc (ok_gc _ _ _ _) (okl_fst (by kernel_rfl) rfl (by kernel_rfl) (exn_i8 se ri ga (Int.toNat ga) (e5 + (Int.toNat ga)) 0 ff6)) [5, 4] (by kernel_rfl) (by kernel_rfl) (by kernel_rfl) (fun μ => by kernel_rfl))))⟩))))))))) (fun h0 => (mBn h0 (mBn h0 ⟨⟨⟨rfl, rfl, rfl⟩, ⟨rfl, rfl, rfl⟩, ⟨rfl, rfl, rfl⟩⟩, (okV_bool rfl)⟩)))))
section
variable {H : Type} {enc : TypeId × Value → H} {P : Program} {w : World} {base : Nat} {held : Bool}
theorem cell_lt {a : Addr} {v : Value} (h : w.cell? a = some v) : a.spot = none ∧ a.block < w.heap.size := by
  unfold World.cell? at h
  split at h
  · rename_i c t f hc
    split at h
    · cases h
    · rename_i hs
      exact ⟨by cases hh : a.spot with | none => rfl | some _ => rw [hh] at hs; simp at hs, (Array.getElem?_eq_some_iff.1 hc).1⟩
  · cases h
/-- A slice that stands in memory: its address is a block's place if there is an element. -/
theorem nested_open {t e : TypeId} {cs : List Value} {fuel : Nat} {x : DataW H × List MemPlace} (ht : P.underlying t = some (.slice e)) (he : 0 < P.cellsOf e) (h : DataW.trod enc P w base (fun _ => true) held fuel t cs = some x) :
    cs = [.slice none 0 0] ∨ ∃ (a : Addr) (k c : Nat), cs = [.slice (some a) k c] ∧ k ≤ c ∧ (k ≠ 0 → a.spot = none ∧ a.block < w.heap.size ∧ Go.Ev.Rows enc P w base held e a.block a.off c) := by
  rcases rows_cells ht h with h0 | ⟨a, k, c, h0, hk, _, hR⟩
  · exact .inl h0
  · refine .inr ⟨a, k, c, h0, hk, fun hk0 => ?_⟩
    rcases DataW.trod_slice ht h with ⟨h1, _⟩ | ⟨a', len, cap, elems, rest, n, _, h1, rfl, hb, hl, hm, hlen, hel, hsp, _⟩
    · rw [h0] at h1; simp at h1
    · rw [h0] at h1
      simp only [List.cons.injEq, Value.slice.injEq, Option.some.injEq, and_true] at h1
      obtain ⟨rfl, rfl, rfl⟩ := h1
      have h2 := hel 0 (by omega)
      rw [List.getElem?_eq_getElem (by omega)] at h2
      rw [Option.bind_eq_some_iff] at h2
      obtain ⟨l0, h3, _⟩ := h2
      obtain ⟨_, h4, h5⟩ := World.cells?_some h3
      have h6 := h5 0 he
      rw [List.getElem?_eq_getElem (by omega)] at h6
      rw [Nat.zero_mul, show (a.add 0).add 0 = a from rfl] at h6
      obtain ⟨s1, s2⟩ := cell_lt h6
      exact ⟨s1, s2, hR s1⟩
end
theorem isK_int {k : IntKind} {n : Int} : isK (.int k) (.int k n) = true := by cases k <;> rfl
theorem script_open {H : Type} {enc : TypeId × Value → H} {W : World} {base : Nat} {v : Value} {d : DataW H} {p : List MemPlace} (hv : Value.okWide Try.prog W .any base 53 v) (h : DataW.Trod enc Try.prog W 0 (fun _ => true) true 53 v d p) :
    v = .slice none 0 0 ∨ ∃ b o k c g, v = .slice (some ⟨b, o, none⟩) k c ∧ Seen W b o (.raw (7 * k) g) ∧ ScrK W k g := by
  rcases open_rows Try.underlying53 hv h with h0 | ⟨b, o, k, c, h0, hb, hk, _, hR⟩
  · exact .inl h0
  · have h7 : Try.prog.cellsOf 56 = 7 := by kernel_rfl
    have c1 : Try.prog.cellsOf 3 = 1 := by kernel_rfl
    have c2 : Try.prog.cellsOf 4 = 1 := by kernel_rfl
    have c3 : Try.prog.cellsOf 22 = 1 := by kernel_rfl
    have c4 : Try.prog.cellsOf 32 = 2 := by kernel_rfl
    obtain ⟨g, hg⟩ : ∃ g : Nat → Value, ∀ x, g x = (W.cell? ⟨b, o + x, none⟩).getD undef := ⟨_, fun _ => rfl⟩
    refine .inr ⟨b, o, k, c, g, h0, ⟨rfl, rfl, rfl, hb, fun j c' hc => ?_⟩, fun i hi => ?_⟩
    · rw [cells_raw] at hc
      simp only [List.getElem?_toArray, List.getElem?_map, Option.map_eq_some_iff] at hc
      obtain ⟨j', hj, rfl⟩ := hc
      obtain ⟨h1, h2⟩ := List.getElem?_eq_some_iff.1 hj
      simp at h1 h2
      subst h2
      obtain ⟨n, l, y, _, hl, hc⟩ := hR (j / 7) (by omega)
      rw [h7] at hl hc
      have h8 := hc (j % 7) _ (List.getElem?_eq_getElem (by omega))
      rw [show o + j / 7 * 7 + j % 7 = o + j by omega] at h8
      rw [hg, h8]; rfl
    · obtain ⟨n, l, y, ht, hl, hc⟩ := hR i (by omega)
      rw [h7] at hl hc
      have hgc : ∀ j v, l[j]? = some v → g (7 * i + j) = v := fun j v hj => by
        have := hc j v hj
        rw [show o + i * 7 + j = o + (7 * i + j) by omega] at this
        rw [hg, this]; rfl
      obtain ⟨xs, n', _, _, _, hxs, hf⟩ := DataW.trod_struct Try.underlying56 ht
      have hxs : xs.length = 7 := hxs
      obtain ⟨v0, v1, v2, v3, v4, v5, v6, rfl⟩ : ∃ v0 v1 v2 v3 v4 v5 v6, l = [v0, v1, v2, v3, v4, v5, v6] := by
        match l, hl with
        | [v0, v1, v2, v3, v4, v5, v6], _ => exact ⟨v0, v1, v2, v3, v4, v5, v6, rfl⟩
      have e0 : DataW.trod enc Try.prog W 0 (fun _ => true) true n' 3 ([v0, v1, v2, v3, v4, v5, v6].drop 0 |>.take (Try.prog.cellsOf 3)) = xs[0]? := hf 0 _ rfl
      rw [c1, List.getElem?_eq_getElem (by omega)] at e0
      simp only [List.drop_zero, List.drop_succ_cons, List.take_succ_cons, List.take_zero] at e0
      have e1 : DataW.trod enc Try.prog W 0 (fun _ => true) true n' 3 ([v0, v1, v2, v3, v4, v5, v6].drop 1 |>.take (Try.prog.cellsOf 3)) = xs[1]? := hf 1 _ rfl
      rw [c1, List.getElem?_eq_getElem (by omega)] at e1
      simp only [List.drop_zero, List.drop_succ_cons, List.take_succ_cons, List.take_zero] at e1
      have e2 : DataW.trod enc Try.prog W 0 (fun _ => true) true n' 4 ([v0, v1, v2, v3, v4, v5, v6].drop 2 |>.take (Try.prog.cellsOf 4)) = xs[2]? := hf 2 _ rfl
      rw [c2, List.getElem?_eq_getElem (by omega)] at e2
      simp only [List.drop_zero, List.drop_succ_cons, List.take_succ_cons, List.take_zero] at e2
      have e3 : DataW.trod enc Try.prog W 0 (fun _ => true) true n' 3 ([v0, v1, v2, v3, v4, v5, v6].drop 3 |>.take (Try.prog.cellsOf 3)) = xs[3]? := hf 3 _ rfl
      rw [c1, List.getElem?_eq_getElem (by omega)] at e3
      simp only [List.drop_zero, List.drop_succ_cons, List.take_succ_cons, List.take_zero] at e3
      have e4 : DataW.trod enc Try.prog W 0 (fun _ => true) true n' 3 ([v0, v1, v2, v3, v4, v5, v6].drop 4 |>.take (Try.prog.cellsOf 3)) = xs[4]? := hf 4 _ rfl
      rw [c1, List.getElem?_eq_getElem (by omega)] at e4
      simp only [List.drop_zero, List.drop_succ_cons, List.take_succ_cons, List.take_zero] at e4
      have e5 : DataW.trod enc Try.prog W 0 (fun _ => true) true n' 3 ([v0, v1, v2, v3, v4, v5, v6].drop 5 |>.take (Try.prog.cellsOf 3)) = xs[5]? := hf 5 _ rfl
      rw [c1, List.getElem?_eq_getElem (by omega)] at e5
      simp only [List.drop_zero, List.drop_succ_cons, List.take_succ_cons, List.take_zero] at e5
      have e6 : DataW.trod enc Try.prog W 0 (fun _ => true) true n' 22 ([v0, v1, v2, v3, v4, v5, v6].drop 6 |>.take (Try.prog.cellsOf 22)) = xs[6]? := hf 6 _ rfl
      rw [c3, List.getElem?_eq_getElem (by omega)] at e6
      simp only [List.drop_zero, List.drop_succ_cons, List.take_succ_cons, List.take_zero] at e6
      obtain ⟨q0, a0, _⟩ := DataW.trod_int Try.underlying3 e0
      obtain ⟨q1, a1, _⟩ := DataW.trod_int Try.underlying3 e1
      obtain ⟨q2, a2, _⟩ := DataW.trod_bool Try.underlying4 e2
      obtain ⟨q3, a3, _⟩ := DataW.trod_int Try.underlying3 e3
      obtain ⟨q4, a4, _⟩ := DataW.trod_int Try.underlying3 e4
      obtain ⟨q5, a5, _⟩ := DataW.trod_int Try.underlying3 e5
      have a6 := nested_open Try.underlying22 (by rw [c4]; omega) e6
      simp only [List.cons.injEq, and_true] at a0 a1 a2 a3 a4 a5 a6
      subst a0 a1 a2 a3 a4 a5
      have g0 : g (7 * i) = _ := hgc 0 _ rfl
      have g1 : g (7 * i + 1) = _ := hgc 1 _ rfl
      have g2 : g (7 * i + 1 + 1) = _ := hgc 2 _ rfl
      have g3 : g (7 * i + 1 + 1 + 1) = _ := hgc 3 _ rfl
      have g4 : g (7 * i + 1 + 1 + 1 + 1) = _ := hgc 4 _ rfl
      have g5 : g (7 * i + 1 + 1 + 1 + 1 + 1) = _ := hgc 5 _ rfl
      have g6 : g (7 * i + 6) = v6 := hgc 6 _ rfl
      have g6' : g (7 * i + 1 + 1 + 1 + 1 + 1 + 1) = v6 := g6
      refine ⟨?_, fun hk0 _ => ?_⟩
      · simp only [stepKs, okKs, Bool.and_eq_true]
        rw [g0, g1, g2, g3, g4, g5, g6']
        refine ⟨isK_int, isK_int, rfl, isK_int, isK_int, isK_int, ?_, trivial⟩
        rcases a6 with rfl | ⟨a, k', c', rfl, _⟩
        · rfl
        · rfl
      · rw [g6] at hk0 ⊢
        rcases a6 with rfl | ⟨⟨ab, ao, asp⟩, k', c', rfl, hkc, hR'⟩
        · exact absurd rfl hk0
        · obtain ⟨s1, s2, s3⟩ := hR' hk0
          simp only at s1 s2 s3
          subst s1
          obtain ⟨f, hf⟩ := rows_pairs Try.underlying32 Try.underlying3 Try.underlying3 ⟨rfl, rfl, c1, c1⟩ c4 s3
          exact ⟨ab, ao, f, rfl, seen_ints s2 fun j hj => hf j (by simp only [gN] at hj; omega)⟩
end Go.Proofs.Ytomipglebaaagaa
