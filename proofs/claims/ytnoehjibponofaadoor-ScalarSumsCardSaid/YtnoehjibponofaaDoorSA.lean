/-
  The document's readers of lists: at, longer. Conditions: none.
-/
import Derived.Test.YtnoehjibponofaaDoorFvN
import Derived.Test.YtnoehjibponofaaDoorMA
import Derived.Test.YtnoehjibponofaaDoorRows
namespace Go.Proofs.YtnoehjibponofaaDoor
open Go.Ev
theorem hM : Tryd.prog.follows .mixedOrders = true := by kernel_rfl
theorem orc0_ok : OrcOK Tryd.prog orc0 := Go.Ev.orc0_ok _
/-- fareboxref06.at -/
def atF (n : Nat) (f : Nat → Int) (i : Int) : Int := cond (decide (i < (n : Int))) (f (0 + i.toNat * 1)) 0
theorem at_t (N n c : Nat) (f : Nat → Int) (i : Int) : awp Tryd.prog orc0 noG 300 (body Tryd.f59) (ends Tryd.prog Tryd.f59 fun v _ => okV (V.int .i64 (atF n f i)) v) ⟨[V.sl 0 0 n c, V.int .i64 i] ++ List.replicate 11 V.un, [V.tup [V.ints .i64 N f]]⟩ =
    mB (decide (i < (n : Int))) (gB (decide (0 ≤ i ∧ i < (n : Int))) (gB (Nat.blt (0 + i.toNat * 1) N) ((V.int .i64 (f (0 + i.toNat * 1))).den z0 = (V.int .i64 (atF n f i)).den z0))) ((V.int .i64 0).den z0 = (V.int .i64 (atF n f i)).den z0) := by kernel_rfl
theorem at_a {N n c : Nat} {f : Nat → Int} {i : Int} (hn : n ≤ N) (hi : 0 ≤ i) : awp Tryd.prog orc0 noG 300 (body Tryd.f59) (ends Tryd.prog Tryd.f59 fun v _ => okV (V.int .i64 (atF n f i)) v) ⟨[V.sl 0 0 n c, V.int .i64 i] ++ List.replicate 11 V.un, [V.tup [V.ints .i64 N f]]⟩ := by
  rw [at_t]
  refine mBt (fun h => ?_) (fun h => ?_)
  · have h1 := of_decide_eq_true h
    refine gm (decide_eq_true ⟨hi, h1⟩) (gm (bltT.2 (by omega)) ?_)
    simp only [atF, h, cond_true]
  · simp only [atF, h, cond_false]
def g59 : List V → List V → Option (Bool × V) := fun vs m => match views [] vs m with
  | some ([.sl 0 0 n _, .int .i64 i], [.tup [.ints .i64 N f]]) => some (Nat.ble n N && decide (0 ≤ i), .int .i64 (atF n f i))
  | _ => none
theorem g59_ok (vs m : List V) (v : V) (h : g59 vs m = some (true, v)) : v.flat = true ∧ ∀ μ B w0 w, Under B w0 → Rel μ B w0 m w → PureAt Tryd.prog 59 (vs.map (V.den μ)).toArray (v.den μ) w := by
  unfold g59 at h
  split at h
  · rename_i n c i N f hv
    simp only [Option.some.injEq, Prod.mk.injEq, Bool.and_eq_true, decide_eq_true_eq] at h
    obtain ⟨⟨h1, h2⟩, rfl⟩ := h
    refine ⟨rfl, ?_⟩
    exact reads_ok (fn := Tryd.f59) (N := 300) (n := 11) hM orc0_ok (noG_ok _) Tryd.func59 (by kernel_rfl) (by kernel_rfl) hv rfl (at_a (bleT.1 h1) h2) (by kernel_rfl)
  · cases h
theorem g59_grow (vs m : List V) (z : V) (r : Bool × V) (h : g59 vs m = some r) : g59 vs (m ++ [z]) = some r := by
  unfold g59 at h ⊢
  cases hv : views [] vs m with
  | none => rw [hv] at h; cases h
  | some p => rw [hv] at h; rw [views_grow hv]; exact h
def o59 : Orc := extM 59 g59 orc0
theorem o59_ok : OrcOK Tryd.prog o59 := extM_ok orc0_ok g59_ok g59_grow
/-- fareboxref06.longer -/
theorem longer_t (N M n m c d : Nat) (f g : Nat → Int) : awp Tryd.prog o59 noG 300 (body Tryd.f58) (ends Tryd.prog Tryd.f58 fun v _ => okV (V.int .i64 (max n m : Nat)) v) ⟨[V.sl 0 0 n c, V.sl 1 0 m d] ++ List.replicate 12 V.un, [V.tup [V.ints .i64 N f], V.tup [V.ints .i64 M g]]⟩ =
    mB (decide ((n : Int) < (m : Int))) ((V.int .i64 (m : Int)).den z0 = (V.int .i64 (max n m : Nat)).den z0) ((V.int .i64 (n : Int)).den z0 = (V.int .i64 (max n m : Nat)).den z0) := by kernel_rfl
theorem longer_a {N M n m c d : Nat} {f g : Nat → Int} : awp Tryd.prog o59 noG 300 (body Tryd.f58) (ends Tryd.prog Tryd.f58 fun v _ => okV (V.int .i64 (max n m : Nat)) v) ⟨[V.sl 0 0 n c, V.sl 1 0 m d] ++ List.replicate 12 V.un, [V.tup [V.ints .i64 N f], V.tup [V.ints .i64 M g]]⟩ := by
  rw [longer_t]
  refine mBt (fun h => ?_) (fun h => ?_)
  · have h := of_decide_eq_true h
    rw [Nat.max_eq_right (by omega)]
  · have h := of_decide_eq_false h
    rw [Nat.max_eq_left (by omega)]
def g58 : List V → List V → Option (Bool × V) := fun vs m => match views [] vs m with
  | some ([.sl 0 0 n _, .sl 1 0 k _], [.tup [.ints .i64 _ _], .tup [.ints .i64 _ _]]) => some (true, .int .i64 (max n k : Nat))
  | _ => none
theorem g58_ok (vs m : List V) (v : V) (h : g58 vs m = some (true, v)) : v.flat = true ∧ ∀ μ B w0 w, Under B w0 → Rel μ B w0 m w → PureAt Tryd.prog 58 (vs.map (V.den μ)).toArray (v.den μ) w := by
  unfold g58 at h
  split at h
  · rename_i n c k d N f M g hv
    simp only [Option.some.injEq, Prod.mk.injEq, true_and] at h
    subst h
    refine ⟨rfl, ?_⟩
    exact reads_ok (fn := Tryd.f58) (N := 300) (n := 12) hM o59_ok (noG_ok _) Tryd.func58 (by kernel_rfl) (by kernel_rfl) hv rfl longer_a (by kernel_rfl)
  · cases h
theorem g58_grow (vs m : List V) (z : V) (r : Bool × V) (h : g58 vs m = some r) : g58 vs (m ++ [z]) = some r := by
  unfold g58 at h ⊢
  cases hv : views [] vs m with
  | none => rw [hv] at h; cases h
  | some p => rw [hv] at h; rw [views_grow hv]; exact h
def o58 : Orc := extM 58 g58 o59
theorem o58_ok : OrcOK Tryd.prog o58 := extM_ok o59_ok g58_ok g58_grow
end Go.Proofs.YtnoehjibponofaaDoor
