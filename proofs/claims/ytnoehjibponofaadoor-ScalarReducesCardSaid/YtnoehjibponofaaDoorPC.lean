/-
  The numbers of four words: read, told, added, taken away. Conditions: none.
-/
import Derived.Test.YtnoehjibponofaaDoorPB
namespace Go.Proofs.YtnoehjibponofaaDoor
open Go.Ev
def loadF (f : Nat → Int) : Nat → Int := fun i => ldR f (8 * i) 8
theorem load_t (f : Nat → Int) : awp Tryd.prog p38 noG 300 (body Tryd.f44) (ends Tryd.prog Tryd.f44 fun v _ => okV (V.ints .u64 4 (loadF f)) v) ⟨[V.ints .u8 32 f] ++ List.replicate 18 V.un, []⟩ = ((V.ints .u64 4 (loadF f)).den z0 = (V.ints .u64 4 (loadF f)).den z0) := by kernel_rfl
theorem load_a (f : Nat → Int) : awp Tryd.prog p38 noG 300 (body Tryd.f44) (ends Tryd.prog Tryd.f44 fun v _ => okV (V.ints .u64 4 (loadF f)) v) ⟨[V.ints .u8 32 f] ++ List.replicate 18 V.un, []⟩ := by
  rw [load_t]
def g44 : List V → Option (Bool × V) := fun | [.ints .u8 32 f] => some (true, (V.ints .u64 4 (loadF f))) | _ => none
theorem g44_ok (vs : List V) (v : V) (h : g44 vs = some (true, v)) : (∀ μ μ', v.den μ' = v.den μ) ∧ ∀ μ w, PureAt Tryd.prog 44 (vs.map (V.den μ)).toArray (v.den μ) w := by
  unfold g44 at h
  split at h
  · simp only [Option.some.injEq, Prod.mk.injEq, true_and] at h
    subst h
    exact pure_ok (F := p38) (N := 300) (fn := Tryd.f44) (args := [_]) (r := _) (n := 18) hM p38_ok (noG_ok _) Tryd.func44 (by kernel_rfl) (by kernel_rfl) (by kernel_rfl) (by kernel_rfl) (load_a _) (by kernel_rfl)
  · simp at h
def p44 : Orc := ext 44 g44 p38
theorem p44_ok : OrcOK Tryd.prog p44 := ext_ok p38_ok g44_ok
def u1 (a : Int) : Bool := decide (0 ≤ a ∧ a < 18446744073709551616)
def u4 (x : Nat → Int) : Bool := u1 (x 0) && u1 (x 1) && u1 (x 2) && u1 (x 3)
theorem u4_at {x : Nat → Int} (h : u4 x = true) : ∀ j, j < 4 → 0 ≤ x j ∧ x j < 18446744073709551616 := by
  simp only [u4, u1, Bool.and_eq_true, decide_eq_true_eq] at h
  obtain ⟨⟨⟨h0, h1⟩, h2⟩, h3⟩ := h
  intro j hj
  have : j = 0 ∨ j = 1 ∨ j = 2 ∨ j = 3 := by omega
  rcases this with rfl | rfl | rfl | rfl <;> assumption
theorem u4_mk {x : Nat → Int} (h : ∀ j, j < 4 → 0 ≤ x j ∧ x j < 18446744073709551616) : u4 x = true := by
  simp only [u4, u1, Bool.and_eq_true, decide_eq_true_eq]
  exact ⟨⟨⟨h 0 (by omega), h 1 (by omega)⟩, h 2 (by omega)⟩, h 3 (by omega)⟩
/-- The carry into word k. -/
def pc (x y : Nat → Int) : Nat → Int
  | 0 => 0
  | k + 1 => aC (x k) (y k) (pc x y k)
def plusF (x y : Nat → Int) : Nat → Int := fun k => aS (x k) (y k) (pc x y k)
theorem aC_le {x y c : Int} (hx : x < 18446744073709551616) (hy : y < 18446744073709551616) (hc : c.toNat ≤ 1) : (aC x y c).toNat ≤ 1 := by
  unfold aC
  rw [Int.toNat_natCast]
  omega
theorem pc_le {x y : Nat → Int} (hx : u4 x = true) (hy : u4 y = true) : ∀ k, k ≤ 4 → (pc x y k).toNat ≤ 1
  | 0, _ => by simp [pc]
  | k + 1, hk => aC_le (u4_at hx k (by omega)).2 (u4_at hy k (by omega)).2 (pc_le hx hy k (by omega))
/-- What was borrowed for word k. -/
def bc (x y : Nat → Int) : Nat → Int
  | 0 => 0
  | k + 1 => sB (x k) (y k) (bc x y k)
def minusF (x y : Nat → Int) : Nat → Int := fun k => sD (x k) (y k) (bc x y k)
theorem bc_le {x y : Nat → Int} : ∀ k, (bc x y k).toNat ≤ 1
  | 0 => by simp [bc]
  | k + 1 => by
    simp only [bc, sB]
    rw [Int.toNat_natCast]
    split <;> omega
theorem plus_t (x y : Nat → Int) : awp Tryd.prog p44 noG 300 (body Tryd.f50) (ends Tryd.prog Tryd.f50 fun v _ => okV (V.tup [V.ints .u64 4 (plusF x y), V.int .u64 (pc x y 4)]) v) ⟨[V.ints .u64 4 x, V.ints .u64 4 y] ++ List.replicate 25 V.un, []⟩ = (gB (Nat.ble (pc x y 1).toNat 1) (gB (Nat.ble (pc x y 2).toNat 1) (gB (Nat.ble (pc x y 3).toNat 1) ((V.tup [V.ints .u64 4 (plusF x y), V.int .u64 (pc x y 4)]).den z0 = (V.tup [V.ints .u64 4 (plusF x y), V.int .u64 (pc x y 4)]).den z0)))) := by kernel_rfl
theorem plus_a (x y : Nat → Int) (h : (u4 x && u4 y) = true) : awp Tryd.prog p44 noG 300 (body Tryd.f50) (ends Tryd.prog Tryd.f50 fun v _ => okV (V.tup [V.ints .u64 4 (plusF x y), V.int .u64 (pc x y 4)]) v) ⟨[V.ints .u64 4 x, V.ints .u64 4 y] ++ List.replicate 25 V.un, []⟩ := by
  rw [plus_t]
  obtain ⟨hx, hy⟩ := Bool.and_eq_true_iff.1 h
  exact gm (bleT.2 (pc_le hx hy 1 (by omega))) (gm (bleT.2 (pc_le hx hy 2 (by omega))) (gm (bleT.2 (pc_le hx hy 3 (by omega))) rfl))
def g50 : List V → Option (Bool × V) := fun | [.ints .u64 4 x, .ints .u64 4 y] => some ((u4 x && u4 y), (V.tup [V.ints .u64 4 (plusF x y), V.int .u64 (pc x y 4)])) | _ => none
theorem g50_ok (vs : List V) (v : V) (h : g50 vs = some (true, v)) : (∀ μ μ', v.den μ' = v.den μ) ∧ ∀ μ w, PureAt Tryd.prog 50 (vs.map (V.den μ)).toArray (v.den μ) w := by
  unfold g50 at h
  split at h
  · simp only [Option.some.injEq, Prod.mk.injEq] at h
    obtain ⟨h, rfl⟩ := h
    exact pure_ok (F := p44) (N := 300) (fn := Tryd.f50) (args := [_, _]) (r := _) (n := 25) hM p44_ok (noG_ok _) Tryd.func50 (by kernel_rfl) (by kernel_rfl) (by kernel_rfl) (by kernel_rfl) (plus_a _ _ h) (by kernel_rfl)
  · simp at h
def p50 : Orc := ext 50 g50 p44
theorem p50_ok : OrcOK Tryd.prog p50 := ext_ok p44_ok g50_ok
theorem minus_t (x y : Nat → Int) : awp Tryd.prog p50 noG 300 (body Tryd.f43) (ends Tryd.prog Tryd.f43 fun v _ => okV (V.tup [V.ints .u64 4 (minusF x y), V.int .u64 (bc x y 4)]) v) ⟨[V.ints .u64 4 x, V.ints .u64 4 y] ++ List.replicate 25 V.un, []⟩ = (gB (Nat.ble (bc x y 1).toNat 1) (gB (Nat.ble (bc x y 2).toNat 1) (gB (Nat.ble (bc x y 3).toNat 1) ((V.tup [V.ints .u64 4 (minusF x y), V.int .u64 (bc x y 4)]).den z0 = (V.tup [V.ints .u64 4 (minusF x y), V.int .u64 (bc x y 4)]).den z0)))) := by kernel_rfl
theorem minus_a (x y : Nat → Int) : awp Tryd.prog p50 noG 300 (body Tryd.f43) (ends Tryd.prog Tryd.f43 fun v _ => okV (V.tup [V.ints .u64 4 (minusF x y), V.int .u64 (bc x y 4)]) v) ⟨[V.ints .u64 4 x, V.ints .u64 4 y] ++ List.replicate 25 V.un, []⟩ := by
  rw [minus_t]
  exact gm (bleT.2 (bc_le 1)) (gm (bleT.2 (bc_le 2)) (gm (bleT.2 (bc_le 3)) rfl))
def g43 : List V → Option (Bool × V) := fun | [.ints .u64 4 x, .ints .u64 4 y] => some (true, (V.tup [V.ints .u64 4 (minusF x y), V.int .u64 (bc x y 4)])) | _ => none
theorem g43_ok (vs : List V) (v : V) (h : g43 vs = some (true, v)) : (∀ μ μ', v.den μ' = v.den μ) ∧ ∀ μ w, PureAt Tryd.prog 43 (vs.map (V.den μ)).toArray (v.den μ) w := by
  unfold g43 at h
  split at h
  · simp only [Option.some.injEq, Prod.mk.injEq, true_and] at h
    subst h
    exact pure_ok (F := p50) (N := 300) (fn := Tryd.f43) (args := [_, _]) (r := _) (n := 25) hM p50_ok (noG_ok _) Tryd.func43 (by kernel_rfl) (by kernel_rfl) (by kernel_rfl) (by kernel_rfl) (minus_a _ _) (by kernel_rfl)
  · simp at h
def p43 : Orc := ext 43 g43 p50
theorem p43_ok : OrcOK Tryd.prog p43 := ext_ok p50_ok g43_ok
/-- A word's bytes, the lowest first. -/
def stR (x : Int) : Nat → Int
  | 0 => x
  | k + 1 => shrI .u64 (stR x k) 8
def stB (x : Int) (k : Nat) : Int := IntKind.wrap .u8 (stR x k)
def G61 : GOrc := inl Tryd.prog p43 300 61 Tryd.f61 noG
theorem G61_ok : GOrcOK Tryd.prog G61 := inl_ok hM p43_ok (noG_ok _) Tryd.func61 (by kernel_rfl) (by kernel_rfl)
def storeF (x : Nat → Int) : Nat → Int := fun j => stB (x (j / 8)) (j % 8)
theorem store_t (x : Nat → Int) : awp Tryd.prog p43 G61 300 (body Tryd.f39) (ends Tryd.prog Tryd.f39 fun v _ => okV (V.ints .u8 32 (storeF x)) v) ⟨[V.ints .u64 4 x] ++ List.replicate 18 V.un, []⟩ = ((V.ints .u8 32 (storeF x)).den z0 = (V.ints .u8 32 (storeF x)).den z0) := by kernel_rfl
theorem store_a (x : Nat → Int) : awp Tryd.prog p43 G61 300 (body Tryd.f39) (ends Tryd.prog Tryd.f39 fun v _ => okV (V.ints .u8 32 (storeF x)) v) ⟨[V.ints .u64 4 x] ++ List.replicate 18 V.un, []⟩ := by
  rw [store_t]
def g39 : List V → Option (Bool × V) := fun | [.ints .u64 4 x] => some (true, (V.ints .u8 32 (storeF x))) | _ => none
theorem g39_ok (vs : List V) (v : V) (h : g39 vs = some (true, v)) : (∀ μ μ', v.den μ' = v.den μ) ∧ ∀ μ w, PureAt Tryd.prog 39 (vs.map (V.den μ)).toArray (v.den μ) w := by
  unfold g39 at h
  split at h
  · simp only [Option.some.injEq, Prod.mk.injEq, true_and] at h
    subst h
    exact pure_ok (F := p43) (N := 300) (fn := Tryd.f39) (args := [_]) (r := _) (n := 18) hM p43_ok (G61_ok) Tryd.func39 (by kernel_rfl) (by kernel_rfl) (by kernel_rfl) (by kernel_rfl) (store_a _) (by kernel_rfl)
  · simp at h
def p39 : Orc := ext 39 g39 p43
theorem p39_ok : OrcOK Tryd.prog p39 := ext_ok p43_ok g39_ok
end Go.Proofs.YtnoehjibponofaaDoor
