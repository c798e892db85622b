/-
  stepped: its ends. Conditions: none.
-/
import Derived.Test.YtomipglebaaagaaRY
namespace Go.Proofs.Ytomipglebaaagaa
open Go.Ev
set_option linter.unusedVariables false
set_option linter.unusedSimpArgs false
def stK (s r t : Int) (n c xN : Nat) (f : Nat → Bool) (v : V) (m : List V) : Prop := m[0]? = some (.bools xN f) ∧ ((v = .tup [.agg [.int .i64 s, .int .i64 r, .sl 0 0 n c, .int .i64 t], .bool true]) ∨
  ∃ id cap hh t', n ≤ cap ∧ id ≠ 0 ∧ v = .tup [.agg [.int .i64 s, .int .i64 r, .sl id 0 n cap, .int .i64 t'], .bool true] ∧ m[id]? = some (.bools cap hh))
def stT (s r t : Int) (n c xN : Nat) (f : Nat → Bool) (z : Go.Ev.Told) : Prop := (z = ⟨.tup [.agg [.int .i64 s, .int .i64 r, .sl 0 0 n c, .int .i64 t], .bool true], [.bools xN f], []⟩) ∨
  ∃ cap hh t', n ≤ cap ∧ z = ⟨.tup [.agg [.int .i64 s, .int .i64 r, .sl 1 0 n cap, .int .i64 t'], .bool true], [.bools xN f], [.bools cap hh]⟩
theorem st_told {s r t : Int} {n c xN : Nat} {f : Nat → Bool} {v : V} {m : List V} (h : stK s r t n c xN f v m) : ∃ z, stT s r t n c xN f z ∧ toldIn 0 1 z v m := by
  obtain ⟨m0, rfl | ⟨id, cap, hh, t', hc, hid, rfl, mi⟩⟩ := h
  · refine ⟨_, .inl rfl, [], rfl, List.nodup_nil, (fun i hi => by cases hi), rfl, fun ν κ hk _ => ⟨?_, fun j c hc => ?_, fun j c i hc _ => by simp at hc⟩⟩
    · have k0 := hk 0 (by omega)
      simp only [Nat.zero_add] at k0
      simp [V.den, V.dens, k0]
    · match j, hc with
      | 0, hc => simp only [List.getElem?_cons_zero, Option.some.injEq] at hc; subst hc; exact ⟨rfl, _, m0, rfl, (plain_bools _ _).2.1 ν κ⟩
      | j + 1, hc => simp at hc
  · refine ⟨_, .inr ⟨cap, hh, t', hc, rfl⟩, [id], rfl, by simp, (fun i hi p hp => by simp at hi; omega), rfl, fun ν κ hk hn => ⟨?_, fun j c hc => ?_, fun j c i hc hi => ?_⟩⟩
    · have k0 := hn 0 id rfl
      simp [V.den, V.dens, k0]
    · match j, hc with
      | 0, hc => simp only [List.getElem?_cons_zero, Option.some.injEq] at hc; subst hc; exact ⟨rfl, _, m0, rfl, (plain_bools _ _).2.1 ν κ⟩
      | j + 1, hc => simp at hc
    · match j, hc, hi with
      | 0, hc, hi => simp only [List.getElem?_cons_zero, Option.some.injEq] at hc hi; subst hc hi; exact ⟨rfl, _, mi, rfl, (plain_bools _ _).2.1 ν κ⟩
      | j + 1, hc, hi => simp at hc
noncomputable def GST : GOrc := inl Try.prog fA 1200 12 Try.f12 (inl Try.prog fA 1200 33 Try.f33 (G20 (G19 (G21 (G23 (G28 (G38 (G26 (G24 (G18 (G14 noG)))))))))))
theorem GST_ok : GOrcOK Try.prog GST := inl_ok hM fA_ok (inl_ok hM fA_ok (G20_ok (G19_ok (G21_ok (G23_ok (G28_ok (G38_ok (G26_ok (G24_ok (G18_ok (G14_ok (noG_ok _)))))))))))  Try.func33 (by kernel_rfl) (by kernel_rfl)) Try.func12 (by kernel_rfl) (by kernel_rfl)
end Go.Proofs.Ytomipglebaaagaa
