/-
  Words out of bytes and back; numbers out of bytes and back. Conditions: none.
-/
import Derived.Test.YtnoehjibponofaaDoorPA
namespace Go.Proofs.YtnoehjibponofaaDoor
open Go.Ev
def G60 : GOrc := inl Tryd.prog p69 300 60 Tryd.f60 noG
theorem G60_ok : GOrcOK Tryd.prog G60 := inl_ok hM p69_ok (noG_ok _) Tryd.func60 (by kernel_rfl) (by kernel_rfl)
/-- k bytes read, the lowest first. -/
def ldR (f : Nat → Int) (at' : Nat) : Nat → Int
  | 0 => 0
  | k + 1 => orI .u64 (ldR f at' k) (shlI .u64 (IntKind.wrap .u64 (f (at' + k))) ((8 * k : Nat) : Int))
theorem ld32_0 (f : Nat → Int) : awp Tryd.prog p69 G60 300 (body Tryd.f38) (ends Tryd.prog Tryd.f38 fun v _ => okV (V.tup [V.int .u64 (ldR f 0 8), V.bool true]) v) ⟨[V.sl 0 0 32 32, V.int .i64 0] ++ List.replicate 29 V.un, [V.tup [V.ints .u8 32 f]]⟩ = okV (V.tup [V.int .u64 (ldR f 0 8), V.bool true]) (V.tup [V.int .u64 (ldR f 0 8), V.bool true]) := by kernel_rfl
theorem ld32_8 (f : Nat → Int) : awp Tryd.prog p69 G60 300 (body Tryd.f38) (ends Tryd.prog Tryd.f38 fun v _ => okV (V.tup [V.int .u64 (ldR f 8 8), V.bool true]) v) ⟨[V.sl 0 0 32 32, V.int .i64 8] ++ List.replicate 29 V.un, [V.tup [V.ints .u8 32 f]]⟩ = okV (V.tup [V.int .u64 (ldR f 8 8), V.bool true]) (V.tup [V.int .u64 (ldR f 8 8), V.bool true]) := by kernel_rfl
theorem ld32_16 (f : Nat → Int) : awp Tryd.prog p69 G60 300 (body Tryd.f38) (ends Tryd.prog Tryd.f38 fun v _ => okV (V.tup [V.int .u64 (ldR f 16 8), V.bool true]) v) ⟨[V.sl 0 0 32 32, V.int .i64 16] ++ List.replicate 29 V.un, [V.tup [V.ints .u8 32 f]]⟩ = okV (V.tup [V.int .u64 (ldR f 16 8), V.bool true]) (V.tup [V.int .u64 (ldR f 16 8), V.bool true]) := by kernel_rfl
theorem ld32_24 (f : Nat → Int) : awp Tryd.prog p69 G60 300 (body Tryd.f38) (ends Tryd.prog Tryd.f38 fun v _ => okV (V.tup [V.int .u64 (ldR f 24 8), V.bool true]) v) ⟨[V.sl 0 0 32 32, V.int .i64 24] ++ List.replicate 29 V.un, [V.tup [V.ints .u8 32 f]]⟩ = okV (V.tup [V.int .u64 (ldR f 24 8), V.bool true]) (V.tup [V.int .u64 (ldR f 24 8), V.bool true]) := by kernel_rfl
theorem ld64_0 (f : Nat → Int) : awp Tryd.prog p69 G60 300 (body Tryd.f38) (ends Tryd.prog Tryd.f38 fun v _ => okV (V.tup [V.int .u64 (ldR f 0 8), V.bool true]) v) ⟨[V.sl 0 0 64 64, V.int .i64 0] ++ List.replicate 29 V.un, [V.tup [V.ints .u8 64 f]]⟩ = okV (V.tup [V.int .u64 (ldR f 0 8), V.bool true]) (V.tup [V.int .u64 (ldR f 0 8), V.bool true]) := by kernel_rfl
theorem ld64_8 (f : Nat → Int) : awp Tryd.prog p69 G60 300 (body Tryd.f38) (ends Tryd.prog Tryd.f38 fun v _ => okV (V.tup [V.int .u64 (ldR f 8 8), V.bool true]) v) ⟨[V.sl 0 0 64 64, V.int .i64 8] ++ List.replicate 29 V.un, [V.tup [V.ints .u8 64 f]]⟩ = okV (V.tup [V.int .u64 (ldR f 8 8), V.bool true]) (V.tup [V.int .u64 (ldR f 8 8), V.bool true]) := by kernel_rfl
theorem ld64_16 (f : Nat → Int) : awp Tryd.prog p69 G60 300 (body Tryd.f38) (ends Tryd.prog Tryd.f38 fun v _ => okV (V.tup [V.int .u64 (ldR f 16 8), V.bool true]) v) ⟨[V.sl 0 0 64 64, V.int .i64 16] ++ List.replicate 29 V.un, [V.tup [V.ints .u8 64 f]]⟩ = okV (V.tup [V.int .u64 (ldR f 16 8), V.bool true]) (V.tup [V.int .u64 (ldR f 16 8), V.bool true]) := by kernel_rfl
theorem ld64_24 (f : Nat → Int) : awp Tryd.prog p69 G60 300 (body Tryd.f38) (ends Tryd.prog Tryd.f38 fun v _ => okV (V.tup [V.int .u64 (ldR f 24 8), V.bool true]) v) ⟨[V.sl 0 0 64 64, V.int .i64 24] ++ List.replicate 29 V.un, [V.tup [V.ints .u8 64 f]]⟩ = okV (V.tup [V.int .u64 (ldR f 24 8), V.bool true]) (V.tup [V.int .u64 (ldR f 24 8), V.bool true]) := by kernel_rfl
theorem ld64_32 (f : Nat → Int) : awp Tryd.prog p69 G60 300 (body Tryd.f38) (ends Tryd.prog Tryd.f38 fun v _ => okV (V.tup [V.int .u64 (ldR f 32 8), V.bool true]) v) ⟨[V.sl 0 0 64 64, V.int .i64 32] ++ List.replicate 29 V.un, [V.tup [V.ints .u8 64 f]]⟩ = okV (V.tup [V.int .u64 (ldR f 32 8), V.bool true]) (V.tup [V.int .u64 (ldR f 32 8), V.bool true]) := by kernel_rfl
theorem ld64_40 (f : Nat → Int) : awp Tryd.prog p69 G60 300 (body Tryd.f38) (ends Tryd.prog Tryd.f38 fun v _ => okV (V.tup [V.int .u64 (ldR f 40 8), V.bool true]) v) ⟨[V.sl 0 0 64 64, V.int .i64 40] ++ List.replicate 29 V.un, [V.tup [V.ints .u8 64 f]]⟩ = okV (V.tup [V.int .u64 (ldR f 40 8), V.bool true]) (V.tup [V.int .u64 (ldR f 40 8), V.bool true]) := by kernel_rfl
theorem ld64_48 (f : Nat → Int) : awp Tryd.prog p69 G60 300 (body Tryd.f38) (ends Tryd.prog Tryd.f38 fun v _ => okV (V.tup [V.int .u64 (ldR f 48 8), V.bool true]) v) ⟨[V.sl 0 0 64 64, V.int .i64 48] ++ List.replicate 29 V.un, [V.tup [V.ints .u8 64 f]]⟩ = okV (V.tup [V.int .u64 (ldR f 48 8), V.bool true]) (V.tup [V.int .u64 (ldR f 48 8), V.bool true]) := by kernel_rfl
theorem ld64_56 (f : Nat → Int) : awp Tryd.prog p69 G60 300 (body Tryd.f38) (ends Tryd.prog Tryd.f38 fun v _ => okV (V.tup [V.int .u64 (ldR f 56 8), V.bool true]) v) ⟨[V.sl 0 0 64 64, V.int .i64 56] ++ List.replicate 29 V.un, [V.tup [V.ints .u8 64 f]]⟩ = okV (V.tup [V.int .u64 (ldR f 56 8), V.bool true]) (V.tup [V.int .u64 (ldR f 56 8), V.bool true]) := by kernel_rfl
def atOK (n : Nat) (i : Int) : Bool := match n with
  | 32 => i == 0 || i == 8 || i == 16 || i == 24
  | 64 => i == 0 || i == 8 || i == 16 || i == 24 || i == 32 || i == 40 || i == 48 || i == 56
  | _ => false
theorem ld_a {n : Nat} {i : Int} {f : Nat → Int} (h : atOK n i = true) : awp Tryd.prog p69 G60 300 (body Tryd.f38) (ends Tryd.prog Tryd.f38 fun v _ => okV (V.tup [V.int .u64 (ldR f i.toNat 8), V.bool true]) v) ⟨[V.sl 0 0 n n, V.int .i64 i] ++ List.replicate 29 V.un, [V.tup [V.ints .u8 n f]]⟩ := by
  unfold atOK at h
  split at h
  · simp only [Bool.or_eq_true, beq_iff_eq] at h
    rcases h with ((rfl | rfl) | rfl) | rfl
    · exact (ld32_0 f).mpr (okV_refl rfl)
    · exact (ld32_8 f).mpr (okV_refl rfl)
    · exact (ld32_16 f).mpr (okV_refl rfl)
    · exact (ld32_24 f).mpr (okV_refl rfl)
  · simp only [Bool.or_eq_true, beq_iff_eq] at h
    rcases h with ((((((rfl | rfl) | rfl) | rfl) | rfl) | rfl) | rfl) | rfl
    · exact (ld64_0 f).mpr (okV_refl rfl)
    · exact (ld64_8 f).mpr (okV_refl rfl)
    · exact (ld64_16 f).mpr (okV_refl rfl)
    · exact (ld64_24 f).mpr (okV_refl rfl)
    · exact (ld64_32 f).mpr (okV_refl rfl)
    · exact (ld64_40 f).mpr (okV_refl rfl)
    · exact (ld64_48 f).mpr (okV_refl rfl)
    · exact (ld64_56 f).mpr (okV_refl rfl)
  · cases h
def g38 : List V → List V → Option (Bool × V) := fun vs m => match views [] vs m with
  | some ([.sl 0 0 n c, .int .i64 i], [.tup [.ints .u8 N f]]) => some (Nat.beq c n && Nat.beq N n && atOK n i, .tup [.int .u64 (ldR f i.toNat 8), .bool true])
  | _ => none
theorem g38_ok (vs m : List V) (v : V) (h : g38 vs m = some (true, v)) : v.flat = true ∧ ∀ μ B w0 w, Under B w0 → Rel μ B w0 m w → PureAt Tryd.prog 38 (vs.map (V.den μ)).toArray (v.den μ) w := by
  unfold g38 at h
  split at h
  · rename_i n c i N f hv
    simp only [Option.some.injEq, Prod.mk.injEq, Bool.and_eq_true] at h
    obtain ⟨⟨⟨h1, h2⟩, h3⟩, rfl⟩ := h
    have h1 := beqT.1 h1; have h2 := beqT.1 h2; subst h1; subst h2
    refine ⟨rfl, ?_⟩
    exact reads_ok (fn := Tryd.f38) (N := 300) (n := 29) hM p69_ok G60_ok Tryd.func38 (by kernel_rfl) (by kernel_rfl) hv rfl (ld_a h3) (by kernel_rfl)
  · cases h
theorem g38_grow (vs m : List V) (z : V) (r : Bool × V) (h : g38 vs m = some r) : g38 vs (m ++ [z]) = some r := by
  unfold g38 at h ⊢
  cases hv : views [] vs m with
  | none => rw [hv] at h; cases h
  | some p => rw [hv] at h; rw [views_grow hv]; exact h
def p38 : Orc := extM 38 g38 p69
theorem p38_ok : OrcOK Tryd.prog p38 := extM_ok p69_ok g38_ok g38_grow
end Go.Proofs.YtnoehjibponofaaDoor
