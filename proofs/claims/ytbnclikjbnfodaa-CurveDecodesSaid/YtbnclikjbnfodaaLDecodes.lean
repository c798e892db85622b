/-
  CurveDecodes answers true. Conditions: none.
-/
import Derived.Test.YtbnclikjbnfodaaZ19
import Derived.Test.YtbnclikjbnfodaaWDecodes
namespace Go.Proofs.Ytbnclikjbnfodaa
open Go.Ev Go.Num

theorem decodes_true {b : Nat → Int} (hb : B32 b) : lawDecodes b = true := by
  unfold lawDecodes
  rcases decE hb with ⟨A, h1, h2, h3⟩ | ⟨h1, h2, h3⟩
  · rcases decJ hb with ⟨B, g1, g2, g3⟩ | ⟨g1, g3⟩
    · obtain ⟨e1, e2⟩ := encE h2
      have e : A = B := en_inj (by rw [← h3, g3])
      rw [h1, g1, (isP_iff h2 g2).2 e, vb_inj e1 hb, e2, h3]
      simp
    · exact absurd h3 (g3 A)
  · rcases decJ hb with ⟨B, g1, g2, g3⟩ | ⟨g1, g3⟩
    · exact absurd g3 (h3 B)
    · rw [h1, g1, h2]
      have : eqN 20 (fun _ => 0) (fun _ => 0) = true := eqN_iff.2 fun _ _ => rfl
      rw [this]
      rfl
end Go.Proofs.Ytbnclikjbnfodaa
