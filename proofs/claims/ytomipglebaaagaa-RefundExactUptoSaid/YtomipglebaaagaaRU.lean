/-
  stepped, as a callee. Conditions: none.
-/
import Derived.Test.YtomipglebaaagaaRZas
import Derived.Test.YtomipglebaaagaaRZaw
import Derived.Test.YtomipglebaaagaaRZjs
import Derived.Test.YtomipglebaaagaaRZjw
import Derived.Test.YtomipglebaaagaaFvV
namespace Go.Proofs.Ytomipglebaaagaa
open Go.Ev
set_option linter.unusedVariables false
set_option linter.unusedSimpArgs false
theorem st_back {s r t : Int} {n c xN : Nat} {f : Nat → Bool} {x : Nat} {m : List V} {K : V → List V → Prop} (hk : K (.tup [.agg [.int .i64 s, .int .i64 r, .sl x 0 n c, .int .i64 t], .bool true]) (m.set x (.bools xN f)) ∧
    ∀ (e : Nat) (hh : Nat → Bool) (t' : Int), K (.tup [.agg [.int .i64 s, .int .i64 r, .sl m.length 0 n (e + n), .int .i64 t'], .bool true]) (m.set x (.bools xN f) ++ [.bools (e + n) hh])) : ∀ z, stT s r t n c xN f z → K (backV [x] z m) (backM [x] z m) := by
  intro z hz
  rcases hz with rfl | ⟨cap, hh, t', hc, rfl⟩
  · have := hk.1
    rw [← List.append_nil (m.set x _)] at this
    exact this
  · have := hk.2 (cap - n) hh t'
    rw [Nat.sub_add_cancel hc] at this
    exact this
/-- The first window that is pinned. -/
def pinAt : List V → Nat → Option (Nat × Nat × Nat)
  | [], _ => none
  | v :: l, i => match v with
    | .tup [.wild (some ⟨b, o, none⟩), _] => some (i, b, o)
    | _ => pinAt l (i + 1)
theorem pin_at {id b o : Nat} : ∀ {m : List V} {i : Nat}, pinAt m i = some (id, b, o) → i ≤ id ∧ ∃ u, m[id - i]? = some (.tup [.wild (some ⟨b, o, none⟩), u])
  | [], _, h => by simp [pinAt] at h
  | v :: l, i, h => by
    unfold pinAt at h
    split at h
    · rename_i b' o' u
      simp only [Option.some.injEq, Prod.mk.injEq] at h
      obtain ⟨rfl, rfl, rfl⟩ := h
      exact ⟨Nat.le_refl _, u, by simp⟩
    · obtain ⟨h1, u, h2⟩ := pin_at h
      exact ⟨by omega, u, by rw [show id - i = id - (i + 1) + 1 by omega, List.getElem?_cons_succ]; exact h2⟩
noncomputable def G29 (G : GOrc) : GOrc := extG 29 (fun vs m K => match vs with
  | [.agg [x0, x1, .sl x q0 q1 q2, x3], .agg [y0, y1, y2, y3, y4, y5, .wsl ad no nc]] => match pinAt m 0 with
    | some (id, b, o) => match viewO [] [x] [.agg [x0, x1, .sl x q0 q1 q2, x3], .agg [y0, y1, y2, y3, y4, y5, .sl id 0 no nc]] m with
      | some ([.agg [.int .i64 s, .int .i64 r, .sl 0 0 n c, .int .i64 t], .agg [.int .i64 gt, .int .i64 ig, .bool j, .int .i64 sb, .int .i64 rb, .int .i64 gb, .sl 1 0 no2 nc2]], [.bools xN f, .tup [.ints .i64 nN lo]]) =>
        ad = some ⟨b, o, none⟩ ∧ gB (((Nat.ble n xN && !(Nat.beq n 0)) && Nat.ble n 16) && (Nat.ble (2 * no2) nN && Nat.ble no2 300)) (K (.tup [.agg [.int .i64 s, .int .i64 r, .sl x 0 n c, .int .i64 t], .bool true]) (m.set x (.bools xN f)) ∧
          ∀ (e : Nat) (hh : Nat → Bool) (t' : Int), K (.tup [.agg [.int .i64 s, .int .i64 r, .sl m.length 0 n (e + n), .int .i64 t'], .bool true]) (m.set x (.bools xN f) ++ [.bools (e + n) hh]))
      | _ => False
    | none => match viewO [] [x] vs m with
      | some ([.agg [.int .i64 s, .int .i64 r, .sl 0 0 n c, .int .i64 t], .agg [.int .i64 gt, .int .i64 ig, .bool j, .int .i64 sb, .int .i64 rb, .int .i64 gb, .wsl ad2 no2 nc2]], [.bools xN f]) =>
        gB (((Nat.ble n xN && !(Nat.beq n 0)) && Nat.ble n 16) && Nat.beq no2 0) (K (.tup [.agg [.int .i64 s, .int .i64 r, .sl x 0 n c, .int .i64 t], .bool true]) (m.set x (.bools xN f)) ∧
          ∀ (e : Nat) (hh : Nat → Bool) (t' : Int), K (.tup [.agg [.int .i64 s, .int .i64 r, .sl m.length 0 n (e + n), .int .i64 t'], .bool true]) (m.set x (.bools xN f) ++ [.bools (e + n) hh]))
      | _ => False
  | _ => False) G
theorem G29_ok {G : GOrc} (hG : GOrcOK Try.prog G) : GOrcOK Try.prog (G29 G) := by
  refine extG_ok hG fun vs m K h => ?_
  split at h
  · rename_i _ x0 x1 x q0 q1 q2 x3 y0 y1 y2 y3 y4 y5 ad no nc
    split at h
    · rename_i id b o hl
      obtain ⟨_, u, hu⟩ := pin_at hl
      rw [Nat.sub_zero] at hu
      split at h
      · rename_i s r n c t gt ig j sb rb gb no2 nc2 xN f nN lo hv
        obtain ⟨rfl, h⟩ := h
        obtain ⟨hg, hk⟩ := gB_t h
        simp only [Bool.and_eq_true] at hg
        obtain ⟨⟨⟨g1, g2⟩, g3⟩, g4, g5⟩ := hg
        have g2 : n ≠ 0 := fun e => by rw [e] at g2; cases g2
        refine callsG_pin (vs' := [.agg [x0, x1, .sl x q0 q1 q2, x3], .agg [y0, y1, y2, y3, y4, y5, .sl id 0 no nc]]) hu (fun μ hμ => by simp [V.den, V.dens, hμ]) ?_
        cases j
        · exact gens_okl Try.func29 (by kernel_rfl) (by kernel_rfl) (own := [_]) hv (T := stT s r t n c xN f) (fun v m' hk => st_told hk) (stas_all s r t n c xN f gt ig sb rb gb no2 nc2 nN lo (bleT.1 g1) g2 (bleT.1 g3) (bleT.1 g4) (bleT.1 g5)) (Nat.le_of_ble_eq_true (by kernel_rfl)) (by kernel_rfl) rfl (st_back hk)
        · exact gens_okl Try.func29 (by kernel_rfl) (by kernel_rfl) (own := [_]) hv (T := stT s r t n c xN f) (fun v m' hk => st_told hk) (stjs_all s r t n c xN f gt ig sb rb gb no2 nc2 nN lo (bleT.1 g1) g2 (bleT.1 g3) (bleT.1 g4) (bleT.1 g5)) (Nat.le_of_ble_eq_true (by kernel_rfl)) (by kernel_rfl) rfl (st_back hk)
      · exact h.elim
    · split at h
      · rename_i s r n c t gt ig j sb rb gb ad2 no2 nc2 xN f hv
        obtain ⟨hg, hk⟩ := gB_t h
        simp only [Bool.and_eq_true] at hg
        obtain ⟨⟨⟨g1, g2⟩, g3⟩, g4⟩ := hg
        have g2 : n ≠ 0 := fun e => by rw [e] at g2; cases g2
        cases j
        · exact gens_okl Try.func29 (by kernel_rfl) (by kernel_rfl) (own := [_]) hv (T := stT s r t n c xN f) (fun v m' hk => st_told hk) (staw_all s r t n c xN f gt ig sb rb gb ad2 no2 nc2 (bleT.1 g1) g2 (bleT.1 g3) (beqT.1 g4)) (Nat.le_of_ble_eq_true (by kernel_rfl)) (by kernel_rfl) rfl (st_back hk)
        · exact gens_okl Try.func29 (by kernel_rfl) (by kernel_rfl) (own := [_]) hv (T := stT s r t n c xN f) (fun v m' hk => st_told hk) (stjw_all s r t n c xN f gt ig sb rb gb ad2 no2 nc2 (bleT.1 g1) g2 (bleT.1 g3) (beqT.1 g4)) (Nat.le_of_ble_eq_true (by kernel_rfl)) (by kernel_rfl) rfl (st_back hk)
      · exact h.elim
  · exact h.elim
end Go.Proofs.Ytomipglebaaagaa
