/-
  A part of the groundwork of this seat's claims: an evaluator over the program, walks, and plain mathematics. Conditions: none.
-/
import Derived.Test.YtnoehjibponofaaDoorFvI
import Derived.Test.YtnoehjibponofaaDoorFvN
import Derived.Test.YtnoehjibponofaaDoorRows
import Derived.Test.YtnoehjibponofaaDoorFvO
/-
  Plain facts on the words that the evaluator writes for unsigned numbers. Conditions: none.
-/
namespace Go.Ev

theorem wrap_u64 (a : Int) : IntKind.wrap .u64 a = a % 18446744073709551616 := by simp [IntKind.wrap, IntKind.bits, IntKind.signed]
theorem addU (a b : Int) : addI .u64 a b = (a + b) % 18446744073709551616 := wrap_u64 _
theorem subU (a b : Int) : subI .u64 a b = (a - b) % 18446744073709551616 := wrap_u64 _
theorem mulU (a b : Int) : mulI .u64 a b = (a * b) % 18446744073709551616 := wrap_u64 _
theorem shrU (a : Int) (k : Nat) (hk : k ≤ 64) : shrI .u64 a (k : Int) = a / 2 ^ k := by
  unfold shrI
  rw [show min (Int.toNat (k : Int)) (IntKind.bits .u64) = k from Nat.min_eq_left hk]
  exact Int.fdiv_eq_ediv_of_nonneg _ (by exact_mod_cast Nat.zero_le (2 ^ k))
theorem shlU (a : Int) (k : Nat) (hk : k ≤ 64) : shlI .u64 a (k : Int) = (a * 2 ^ k) % 18446744073709551616 := by
  unfold shlI
  rw [show min (Int.toNat (k : Int)) (IntKind.bits .u64) = k from Nat.min_eq_left hk]
  exact wrap_u64 _
theorem shr51 (a : Int) : shrI .u64 a 51 = a / 2251799813685248 := shrU a 51 (by omega)
theorem shr26 (a : Int) : shrI .u64 a 26 = a / 67108864 := shrU a 26 (by omega)
theorem shr21 (a : Int) : shrI .u64 a 21 = a / 2097152 := shrU a 21 (by omega)
theorem and_mask (a : Int) (k : Nat) (hk : k ≤ 64) : andI .u64 a (2 ^ k - 1) = a % 2 ^ k := by
  unfold andI bits2
  have hpos : (0 : Int) < 2 ^ k := by exact_mod_cast Nat.two_pow_pos k
  have hcast : ((2 ^ k : Nat) : Int) = 2 ^ k := by simp
  have hle : (2 : Int) ^ k ≤ 18446744073709551616 := by
    have h1 : (2 : Nat) ^ k ≤ 2 ^ 64 := Nat.pow_le_pow_right (by omega) hk
    have h2 : (2 : Nat) ^ 64 = 18446744073709551616 := by decide
    omega
  have e1 : (BitVec.ofInt (IntKind.bits .u64) a).toNat = (a % 18446744073709551616).toNat := by
    rw [BitVec.toNat_ofInt]; rfl
  have e2 : (BitVec.ofInt (IntKind.bits .u64) (2 ^ k - 1)).toNat = 2 ^ k - 1 := by
    have : (2 ^ k - 1 : Int) % 18446744073709551616 = 2 ^ k - 1 := Int.emod_eq_of_lt (by omega) (by omega)
    rw [BitVec.toNat_ofInt]
    show ((2 ^ k - 1 : Int) % 18446744073709551616).toNat = _
    rw [this]
    have h1 : 0 < 2 ^ k := Nat.two_pow_pos k
    have h2 : ((2 ^ k : Nat) : Int) = 2 ^ k := by simp
    omega
  rw [BitVec.toNat_and, e1, e2, Nat.and_two_pow_sub_one_eq_mod, wrap_u64]
  have h0 : 0 ≤ a % 18446744073709551616 := Int.emod_nonneg _ (by omega)
  rw [Int.natCast_emod, Int.toNat_of_nonneg h0]
  have hd : (2 : Int) ^ k ∣ 18446744073709551616 := by
    have : (2 : Int) ^ 64 = 18446744073709551616 := by decide
    rw [← this]; exact_mod_cast Nat.pow_dvd_pow 2 hk
  have : ((2 ^ k : Nat) : Int) = 2 ^ k := by simp
  rw [this, Int.emod_emod_of_dvd _ hd]
  exact Int.emod_eq_of_lt (Int.emod_nonneg _ (by omega)) (Int.lt_of_lt_of_le (Int.emod_lt_of_pos _ hpos) hle)
theorem and51 (a : Int) : andI .u64 a 2251799813685247 = a % 2251799813685248 := and_mask a 51 (by omega)
theorem and26 (a : Int) : andI .u64 a 67108863 = a % 67108864 := and_mask a 26 (by omega)
theorem and21 (a : Int) : andI .u64 a 2097151 = a % 2097152 := and_mask a 21 (by omega)
theorem and1 (a : Int) : andI .u64 a 1 = a % 2 := and_mask a 1 (by omega)
end Go.Ev

namespace Go.Ev
theorem wrap_i64 (a : Int) (h : -9223372036854775808 ≤ a ∧ a < 9223372036854775808) : IntKind.wrap .i64 a = a := IntWalk.i64_in a (by omega)
theorem quo_nat (k m : Nat) (hk : k < 2147483648) : quoI .i64 (k : Int) (m : Int) = ((k / m : Nat) : Int) := by
  unfold quoI
  have h1 : (k : Int).tdiv (m : Int) = ((k / m : Nat) : Int) := by simp [Int.tdiv]
  have h2 : k / m ≤ k := Nat.div_le_self k m
  rw [h1]
  generalize k / m = q at *
  exact wrap_i64 _ (by omega)
theorem rem_nat (k m : Nat) : remI (k : Int) (m : Int) = ((k % m : Nat) : Int) := by unfold remI; simp [Int.tmod]
theorem add1_nat (k : Nat) (hk : k < 2147483648) : addI .i64 (k : Int) 1 = ((k + 1 : Nat) : Int) := by
  unfold addI; rw [wrap_i64 _ (by omega)]; omega
theorem sub1_nat (k : Nat) (hk : k < 2147483648) : subI .i64 (k : Int) 1 = (k : Int) - 1 := by
  unfold subI; rw [wrap_i64 _ (by omega)]
end Go.Ev

/-
  The document's readers of lists: at, longer. Conditions: none.
-/
namespace Go.Proofs.YtnoehjibponofaaDoor
open Go.Ev
theorem hM : Tryd.prog.follows .mixedOrders = true := by kernel_rfl
theorem orc0_ok : OrcOK Tryd.prog orc0 := Go.Ev.orc0_ok _
/-- fareboxref06.at -/
def atF (n : Nat) (f : Nat → Int) (i : Int) : Int := cond (decide (i < (n : Int))) (f (0 + i.toNat * 1)) 0
theorem at_t (N n c : Nat) (f : Nat → Int) (i : Int) : awp Tryd.prog orc0 noG 300 (body Tryd.f59) (ends Tryd.prog Tryd.f59 fun v _ => okV (V.int .i64 (atF n f i)) v) ⟨[V.sl 0 0 n c, V.int .i64 i] ++ List.replicate 11 V.un, [V.tup [V.ints .i64 N f]]⟩ =
    mB (decide (i < (n : Int))) (gB (decide (0 ≤ i ∧ i < (n : Int))) (gB (Nat.blt (0 + i.toNat * 1) N) ((V.int .i64 (f (0 + i.toNat * 1))).den z0 = (V.int .i64 (atF n f i)).den z0))) ((V.int .i64 0).den z0 = (V.int .i64 (atF n f i)).den z0) := by kernel_rfl
theorem at_a {N n c : Nat} {f : Nat → Int} {i : Int} (hn : n ≤ N) (hi : 0 ≤ i) : awp Tryd.prog orc0 noG 300 (body Tryd.f59) (ends Tryd.prog Tryd.f59 fun v _ => okV (V.int .i64 (atF n f i)) v) ⟨[V.sl 0 0 n c, V.int .i64 i] ++ List.replicate 11 V.un, [V.tup [V.ints .i64 N f]]⟩ := by
  rw [at_t]
  refine mBt (fun h => ?_) (fun h => ?_)
  · have h1 := of_decide_eq_true h
    refine gm (decide_eq_true ⟨hi, h1⟩) (gm (bltT.2 (by omega)) ?_)
    simp only [atF, h, cond_true]
  · simp only [atF, h, cond_false]
def g59 : List V → List V → Option (Bool × V) := fun vs m => match views [] vs m with
  | some ([.sl 0 0 n _, .int .i64 i], [.tup [.ints .i64 N f]]) => some (Nat.ble n N && decide (0 ≤ i), .int .i64 (atF n f i))
  | _ => none
theorem g59_ok (vs m : List V) (v : V) (h : g59 vs m = some (true, v)) : v.flat = true ∧ ∀ μ B w0 w, Under B w0 → Rel μ B w0 m w → PureAt Tryd.prog 59 (vs.map (V.den μ)).toArray (v.den μ) w := by
  unfold g59 at h
  split at h
  · rename_i n c i N f hv
    simp only [Option.some.injEq, Prod.mk.injEq, Bool.and_eq_true, decide_eq_true_eq] at h
    obtain ⟨⟨h1, h2⟩, rfl⟩ := h
    refine ⟨rfl, ?_⟩
    exact reads_ok (fn := Tryd.f59) (N := 300) (n := 11) hM orc0_ok (noG_ok _) Tryd.func59 (by kernel_rfl) (by kernel_rfl) hv rfl (at_a (bleT.1 h1) h2) (by kernel_rfl)
  · cases h
theorem g59_grow (vs m : List V) (z : V) (r : Bool × V) (h : g59 vs m = some r) : g59 vs (m ++ [z]) = some r := by
  unfold g59 at h ⊢
  cases hv : views [] vs m with
  | none => rw [hv] at h; cases h
  | some p => rw [hv] at h; rw [views_grow hv]; exact h
def o59 : Orc := extM 59 g59 orc0
theorem o59_ok : OrcOK Tryd.prog o59 := extM_ok orc0_ok g59_ok g59_grow
/-- fareboxref06.longer -/
theorem longer_t (N M n m c d : Nat) (f g : Nat → Int) : awp Tryd.prog o59 noG 300 (body Tryd.f58) (ends Tryd.prog Tryd.f58 fun v _ => okV (V.int .i64 (max n m : Nat)) v) ⟨[V.sl 0 0 n c, V.sl 1 0 m d] ++ List.replicate 12 V.un, [V.tup [V.ints .i64 N f], V.tup [V.ints .i64 M g]]⟩ =
    mB (decide ((n : Int) < (m : Int))) ((V.int .i64 (m : Int)).den z0 = (V.int .i64 (max n m : Nat)).den z0) ((V.int .i64 (n : Int)).den z0 = (V.int .i64 (max n m : Nat)).den z0) := by kernel_rfl
theorem longer_a {N M n m c d : Nat} {f g : Nat → Int} : awp Tryd.prog o59 noG 300 (body Tryd.f58) (ends Tryd.prog Tryd.f58 fun v _ => okV (V.int .i64 (max n m : Nat)) v) ⟨[V.sl 0 0 n c, V.sl 1 0 m d] ++ List.replicate 12 V.un, [V.tup [V.ints .i64 N f], V.tup [V.ints .i64 M g]]⟩ := by
  rw [longer_t]
  refine mBt (fun h => ?_) (fun h => ?_)
  · have h := of_decide_eq_true h
    rw [Nat.max_eq_right (by omega)]
  · have h := of_decide_eq_false h
    rw [Nat.max_eq_left (by omega)]
def g58 : List V → List V → Option (Bool × V) := fun vs m => match views [] vs m with
  | some ([.sl 0 0 n _, .sl 1 0 k _], [.tup [.ints .i64 _ _], .tup [.ints .i64 _ _]]) => some (true, .int .i64 (max n k : Nat))
  | _ => none
theorem g58_ok (vs m : List V) (v : V) (h : g58 vs m = some (true, v)) : v.flat = true ∧ ∀ μ B w0 w, Under B w0 → Rel μ B w0 m w → PureAt Tryd.prog 58 (vs.map (V.den μ)).toArray (v.den μ) w := by
  unfold g58 at h
  split at h
  · rename_i n c k d N f M g hv
    simp only [Option.some.injEq, Prod.mk.injEq, true_and] at h
    subst h
    refine ⟨rfl, ?_⟩
    exact reads_ok (fn := Tryd.f58) (N := 300) (n := 12) hM o59_ok (noG_ok _) Tryd.func58 (by kernel_rfl) (by kernel_rfl) hv rfl longer_a (by kernel_rfl)
  · cases h
theorem g58_grow (vs m : List V) (z : V) (r : Bool × V) (h : g58 vs m = some r) : g58 vs (m ++ [z]) = some r := by
  unfold g58 at h ⊢
  cases hv : views [] vs m with
  | none => rw [hv] at h; cases h
  | some p => rw [hv] at h; rw [views_grow hv]; exact h
def o58 : Orc := extM 58 g58 o59
theorem o58_ok : OrcOK Tryd.prog o58 := extM_ok o59_ok g58_ok g58_grow
end Go.Proofs.YtnoehjibponofaaDoor

namespace Go.Proofs.YtnoehjibponofaaDoor
open Go.Ev
theorem less_h (xN x xc yN y yc : Nat) (xf yf : Nat → Int) (N : Nat) (R : V) : awp Tryd.prog o58 noG N (body Tryd.f45) (ends Tryd.prog Tryd.f45 fun v _ => okV R v) ⟨[(V.sl 0 0 x xc), (V.sl 1 0 y yc)] ++ List.replicate 26 V.un, [(V.tup [(V.ints .i64 xN xf)]), (V.tup [(V.ints .i64 yN yf)])]⟩ = (lp (awp Tryd.prog o58 noG N (loopOf (body Tryd.f45))) (spineQ Tryd.prog o58 noG N (body Tryd.f45) (ends Tryd.prog Tryd.f45 fun v _ => okV R v)) N ⟨[(V.sl 0 0 x xc), (V.sl 1 0 y yc), V.un, V.un, (V.bool false), (V.int .i64 (subI .i64 ((max x y : Nat) : Int) 1)), (V.sl 0 0 x xc), (V.sl 1 0 y yc), (V.int .i64 ((max x y : Nat) : Int)), (V.int .i64 (subI .i64 ((max x y : Nat) : Int) 1)), V.un, V.un, V.un, V.un, V.un, V.un, V.un, V.un, V.un, V.un, V.un, V.un, V.un, V.un, V.un, V.un, V.un, V.un], [(V.tup [(V.ints .i64 xN xf)]), (V.tup [(V.ints .i64 yN yf)])]⟩) := by kernel_rfl
theorem less_s (xN x xc yN y yc : Nat) (xf yf : Nat → Int) (i : Int) (t4 t10 t11 t12 t13 t14 t15 t16 t17 t18 t19 t20 t21 t22 t23 t24 t25 t26 t27 : V) (Q : Exit → St → Prop) (m : Nat) : lp (awp Tryd.prog o58 noG 300 (loopOf (body Tryd.f45))) Q (m + 1) ⟨[(V.sl 0 0 x xc), (V.sl 1 0 y yc), V.un, V.un, t4, (V.int .i64 i), (V.sl 0 0 x xc), (V.sl 1 0 y yc), (V.int .i64 ((max x y : Nat) : Int)), (V.int .i64 (subI .i64 ((max x y : Nat) : Int) 1)), t10, t11, t12, t13, t14, t15, t16, t17, t18, t19, t20, t21, t22, t23, t24, t25, t26, t27], [(V.tup [(V.ints .i64 xN xf)]), (V.tup [(V.ints .i64 yN yf)])]⟩ = (mB (decide (i ≥ 0)) (gB (Nat.ble x (xN - 0) && decide (0 ≤ i)) (gB (Nat.ble y (yN - 0) && decide (0 ≤ i)) (mB ((atF x xf i) != (atF y yf i)) (gB (Nat.ble x (xN - 0) && decide (0 ≤ i)) (gB (Nat.ble y (yN - 0) && decide (0 ≤ i)) (Q .ret ⟨[(V.sl 0 0 x xc), (V.sl 1 0 y yc), V.un, V.un, (V.bool (decide ((atF x xf i) < (atF y yf i)))), (V.int .i64 i), (V.sl 0 0 x xc), (V.sl 1 0 y yc), (V.int .i64 ((max x y : Nat) : Int)), (V.int .i64 (subI .i64 ((max x y : Nat) : Int) 1)), (V.int .i64 i), (V.bool (decide (i ≥ 0))), t12, t13, (V.sl 0 0 x xc), (V.int .i64 i), (V.int .i64 (atF x xf i)), (V.sl 1 0 y yc), (V.int .i64 i), (V.int .i64 (atF y yf i)), (V.bool ((atF x xf i) != (atF y yf i))), (V.sl 0 0 x xc), (V.int .i64 i), (V.int .i64 (atF x xf i)), (V.sl 1 0 y yc), (V.int .i64 i), (V.int .i64 (atF y yf i)), (V.bool (decide ((atF x xf i) < (atF y yf i))))], [(V.tup [(V.ints .i64 xN xf)]), (V.tup [(V.ints .i64 yN yf)])]⟩))) (lp (awp Tryd.prog o58 noG 300 (loopOf (body Tryd.f45))) Q m ⟨[(V.sl 0 0 x xc), (V.sl 1 0 y yc), V.un, V.un, t4, (V.int .i64 (subI .i64 i 1)), (V.sl 0 0 x xc), (V.sl 1 0 y yc), (V.int .i64 ((max x y : Nat) : Int)), (V.int .i64 (subI .i64 ((max x y : Nat) : Int) 1)), (V.int .i64 i), (V.bool (decide (i ≥ 0))), (V.int .i64 i), (V.int .i64 (subI .i64 i 1)), (V.sl 0 0 x xc), (V.int .i64 i), (V.int .i64 (atF x xf i)), (V.sl 1 0 y yc), (V.int .i64 i), (V.int .i64 (atF y yf i)), (V.bool ((atF x xf i) != (atF y yf i))), t21, t22, t23, t24, t25, t26, t27], [(V.tup [(V.ints .i64 xN xf)]), (V.tup [(V.ints .i64 yN yf)])]⟩)))) (Q (.exit 0) ⟨[(V.sl 0 0 x xc), (V.sl 1 0 y yc), V.un, V.un, t4, (V.int .i64 i), (V.sl 0 0 x xc), (V.sl 1 0 y yc), (V.int .i64 ((max x y : Nat) : Int)), (V.int .i64 (subI .i64 ((max x y : Nat) : Int) 1)), (V.int .i64 i), (V.bool (decide (i ≥ 0))), t12, t13, t14, t15, t16, t17, t18, t19, t20, t21, t22, t23, t24, t25, t26, t27], [(V.tup [(V.ints .i64 xN xf)]), (V.tup [(V.ints .i64 yN yf)])]⟩)) := by kernel_rfl
theorem less_xr (xN x xc yN y yc : Nat) (xf yf : Nat → Int) (i : Int) (t10 t11 t12 t13 t14 t15 t16 t17 t18 t19 t20 t21 t22 t23 t24 t25 t26 t27 : V) (R : V) : spineQ Tryd.prog o58 noG 300 (body Tryd.f45) (ends Tryd.prog Tryd.f45 fun v _ => okV R v) .ret ⟨[(V.sl 0 0 x xc), (V.sl 1 0 y yc), V.un, V.un, (V.bool (decide ((atF x xf i) < (atF y yf i)))), (V.int .i64 i), (V.sl 0 0 x xc), (V.sl 1 0 y yc), (V.int .i64 ((max x y : Nat) : Int)), (V.int .i64 (subI .i64 ((max x y : Nat) : Int) 1)), t10, t11, t12, t13, t14, t15, t16, t17, t18, t19, t20, t21, t22, t23, t24, t25, t26, t27], [(V.tup [(V.ints .i64 xN xf)]), (V.tup [(V.ints .i64 yN yf)])]⟩ = (okV R (V.bool (decide ((atF x xf i) < (atF y yf i))))) := by kernel_rfl
theorem less_x (xN x xc yN y yc : Nat) (xf yf : Nat → Int) (i : Int) (t4 t10 t11 t12 t13 t14 t15 t16 t17 t18 t19 t20 t21 t22 t23 t24 t25 t26 t27 : V) (R : V) : spineQ Tryd.prog o58 noG 300 (body Tryd.f45) (ends Tryd.prog Tryd.f45 fun v _ => okV R v) (.exit 0) ⟨[(V.sl 0 0 x xc), (V.sl 1 0 y yc), V.un, V.un, t4, (V.int .i64 i), (V.sl 0 0 x xc), (V.sl 1 0 y yc), (V.int .i64 ((max x y : Nat) : Int)), (V.int .i64 (subI .i64 ((max x y : Nat) : Int) 1)), t10, t11, t12, t13, t14, t15, t16, t17, t18, t19, t20, t21, t22, t23, t24, t25, t26, t27], [(V.tup [(V.ints .i64 xN xf)]), (V.tup [(V.ints .i64 yN yf)])]⟩ = (okV R (V.bool false)) := by kernel_rfl
end Go.Proofs.YtnoehjibponofaaDoor

/-
  The document's Less: a contract. Conditions: none.
-/
namespace Go.Proofs.YtnoehjibponofaaDoor
open Go.Ev
/-- Is one list below the other, from digit k - 1 down? -/
def lessD (x : Nat) (f : Nat → Int) (y : Nat) (g : Nat → Int) : Nat → Bool
  | 0 => false
  | k + 1 => cond (atF x f (k : Int) != atF y g (k : Int)) (decide (atF x f (k : Int) < atF y g (k : Int))) (lessD x f y g k)
theorem less_l (xN x xc yN y yc : Nat) (xf yf : Nat → Int) (hx : x ≤ xN) (hy : y ≤ yN) (K : Nat) : ∀ (k m : Nat), k ≤ 299 → k + 1 ≤ m → lessD x xf y yf K = lessD x xf y yf k → ∀ (t4 t10 t11 t12 t13 t14 t15 t16 t17 t18 t19 t20 t21 t22 t23 t24 t25 t26 t27 : V),
    lp (awp Tryd.prog o58 noG 300 (loopOf (body Tryd.f45))) (spineQ Tryd.prog o58 noG 300 (body Tryd.f45) (ends Tryd.prog Tryd.f45 fun v _ => okV (V.bool (lessD x xf y yf K)) v)) m ⟨[(V.sl 0 0 x xc), (V.sl 1 0 y yc), V.un, V.un, t4, (V.int .i64 ((k : Int) - 1)), (V.sl 0 0 x xc), (V.sl 1 0 y yc), (V.int .i64 ((max x y : Nat) : Int)), (V.int .i64 (subI .i64 ((max x y : Nat) : Int) 1)), t10, t11, t12, t13, t14, t15, t16, t17, t18, t19, t20, t21, t22, t23, t24, t25, t26, t27], [(V.tup [(V.ints .i64 xN xf)]), (V.tup [(V.ints .i64 yN yf)])]⟩
  | 0, m, _, hm, he, t4, t10, t11, t12, t13, t14, t15, t16, t17, t18, t19, t20, t21, t22, t23, t24, t25, t26, t27 => by
    obtain ⟨m, rfl⟩ : ∃ z, m = z + 1 := ⟨m - 1, by omega⟩
    rw [less_s]
    refine mBt (fun h => absurd (of_decide_eq_true h) (by omega)) (fun _ => ?_)
    rw [less_x, he]
    exact okV_refl rfl
  | k + 1, m, hk, hm, he, t4, t10, t11, t12, t13, t14, t15, t16, t17, t18, t19, t20, t21, t22, t23, t24, t25, t26, t27 => by
    obtain ⟨m, rfl⟩ : ∃ z, m = z + 1 := ⟨m - 1, by omega⟩
    have e1 : (((k + 1 : Nat) : Int) - 1) = (k : Int) := by omega
    rw [e1, less_s]
    have gx : (Nat.ble x (xN - 0) && decide (0 ≤ (k : Int))) = true := by rw [bleT.2 (show x ≤ xN - 0 by omega), decide_eq_true (show (0 : Int) ≤ (k : Int) by omega)]; rfl
    have gy : (Nat.ble y (yN - 0) && decide (0 ≤ (k : Int))) = true := by rw [bleT.2 (show y ≤ yN - 0 by omega), decide_eq_true (show (0 : Int) ≤ (k : Int) by omega)]; rfl
    have hnx : (subI .i64 (k : Int) 1) = (k : Int) - 1 := sub1_nat k (by omega)
    refine mBt (fun _ => ?_) (fun h => absurd (of_decide_eq_false h) (by omega))
    refine gm gx (gm gy (mBt (fun hne => gm gx (gm gy ?_)) (fun hne => ?_)))
    · rw [less_xr, he]
      simp only [lessD, hne, cond_true]
      exact okV_refl rfl
    · rw [hnx]
      refine less_l xN x xc yN y yc xf yf hx hy K k m (by omega) (by omega) ?_ _ _ _ _ _ _ _ _ _ _ _ _ _ _ _ _ _ _ _
      rw [he]
      simp only [lessD, hne, cond_false]
theorem less_a {xN x xc yN y yc : Nat} {xf yf : Nat → Int} (hx : x ≤ xN) (hy : y ≤ yN) (hm : max x y ≤ 299) :
    awp Tryd.prog o58 noG 300 (body Tryd.f45) (ends Tryd.prog Tryd.f45 fun v _ => okV (V.bool (lessD x xf y yf (max x y))) v) ⟨[V.sl 0 0 x xc, V.sl 1 0 y yc] ++ List.replicate 26 V.un, [V.tup [V.ints .i64 xN xf], V.tup [V.ints .i64 yN yf]]⟩ := by
  rw [less_h]
  have e : (subI .i64 ((max x y : Nat) : Int) 1) = ((max x y : Nat) : Int) - 1 := sub1_nat _ (by omega)
  have h := less_l xN x xc yN y yc xf yf hx hy (max x y) (max x y) 300 hm (by omega) rfl
  rw [e] at h ⊢
  exact h _ _ _ _ _ _ _ _ _ _ _ _ _ _ _ _ _ _ _
def g45 : List V → List V → Option (Bool × V) := fun vs m => match views [] vs m with
  | some ([.sl 0 0 x _, .sl 1 0 y _], [.tup [.ints .i64 xN xf], .tup [.ints .i64 yN yf]]) => some (Nat.ble x xN && Nat.ble y yN && Nat.ble (max x y) 299, .bool (lessD x xf y yf (max x y)))
  | _ => none
theorem g45_ok (vs m : List V) (v : V) (h : g45 vs m = some (true, v)) : v.flat = true ∧ ∀ μ B w0 w, Under B w0 → Rel μ B w0 m w → PureAt Tryd.prog 45 (vs.map (V.den μ)).toArray (v.den μ) w := by
  unfold g45 at h
  split at h
  · rename_i x xc y yc xN xf yN yf hv
    simp only [Option.some.injEq, Prod.mk.injEq, Bool.and_eq_true] at h
    obtain ⟨⟨⟨h1, h2⟩, h3⟩, rfl⟩ := h
    refine ⟨rfl, ?_⟩
    exact reads_ok (fn := Tryd.f45) (N := 300) (n := 26) hM o58_ok (noG_ok _) Tryd.func45 (by kernel_rfl) (by kernel_rfl) hv rfl (less_a (bleT.1 h1) (bleT.1 h2) (bleT.1 h3)) (by kernel_rfl)
  · cases h
theorem g45_grow (vs m : List V) (z : V) (r : Bool × V) (h : g45 vs m = some r) : g45 vs (m ++ [z]) = some r := by
  unfold g45 at h ⊢
  cases hv : views [] vs m with
  | none => rw [hv] at h; cases h
  | some p => rw [hv] at h; rw [views_grow hv]; exact h
def o45 : Orc := extM 45 g45 o58
theorem o45_ok : OrcOK Tryd.prog o45 := extM_ok o58_ok g45_ok g45_grow
end Go.Proofs.YtnoehjibponofaaDoor

/-
  The document's Of: the digits of bytes. Conditions: none.
-/
namespace Go.Proofs.YtnoehjibponofaaDoor
open Go.Ev
theorem of_h (xN x xc : Nat) (xf : Nat → Int) (N : Nat) (d : Made) : awq Tryd.prog o45 noG 1 N (body Tryd.f37) (ends Tryd.prog Tryd.f37 fun v m => madeK d v m) ⟨[(V.sl 0 0 x xc)] ++ List.replicate 19 V.un, [(V.tup [(V.ints .u8 xN xf)])]⟩ = ((lpW 1 (awp Tryd.prog o45 noG N (loopOf (body Tryd.f37)))) (spineW Tryd.prog o45 noG 1 N (body Tryd.f37) (ends Tryd.prog Tryd.f37 fun v m => madeK d v m)) N ⟨[(V.sl 0 0 x xc), V.un, V.snil, V.snil, (V.int .i64 0), V.un, V.un, V.un, V.un, V.un, V.un, V.un, V.un, V.un, V.un, V.un, V.un, V.un, V.un, V.un], [(V.tup [(V.ints .u8 xN xf)])]⟩) := by kernel_rfl
theorem of_as (xN x xc : Nat) (xf : Nat → Int) (i : Int) (t5 t6 t7 t8 t9 t10 t11 t12 t13 t14 t15 t16 t17 t18 : V) (Q : Exit → St → Prop) (m : Nat) : (lpW 1 (awp Tryd.prog o45 noG 300 (loopOf (body Tryd.f37)))) Q (m + 1) ⟨[(V.sl 0 0 x xc), V.un, V.snil, V.snil, (V.int .i64 i), t5, t6, t7, t8, t9, t10, t11, t12, t13, t14, t15, t16, t17, t18, V.un], [(V.tup [(V.ints .u8 xN xf)])]⟩ = (mB (decide (i < ((x : Nat) : Int))) (gB (decide (0 ≤ i ∧ i < x)) (gB (Nat.blt (0 + (Int.toNat i * 1)) xN) (∀ (c1 : Nat), (1 ≤ c1) → (∀ μ : Mu, ∃ s2, Gc 1 μ ⟨[(V.sl 0 0 x xc), V.un, V.snil, (V.sl 2 0 1 c1), (V.int .i64 (addI .i64 i 1)), (V.int .i64 i), (V.sl 0 0 x xc), (V.int .i64 ((x : Nat) : Int)), (V.bool (decide (i < ((x : Nat) : Int)))), (V.int .i64 i), (V.int .i64 (addI .i64 i 1)), V.snil, (V.sl 0 0 x xc), (V.int .i64 i), (V.ptr 0 (0 + (Int.toNat i * 1))), (V.int .u8 (xf (0 + (Int.toNat i * 1)))), (V.int .i64 (IntKind.wrap .i64 (xf (0 + (Int.toNat i * 1))))), (V.sl 1 0 1 1), (V.sl 2 0 1 c1), V.un], [(V.tup [(V.ints .u8 xN xf)]), (V.ints .i64 1 (up 0 (IntKind.wrap .i64 (xf (0 + (Int.toNat i * 1)))) (fun _ => 0))), (V.ints .i64 c1 (ap 0 1 (fun _ => 0) (up 0 (IntKind.wrap .i64 (xf (0 + (Int.toNat i * 1)))) (fun _ => 0)) 0))]⟩ s2 ∧ (lpW 1 (awp Tryd.prog o45 noG 300 (loopOf (body Tryd.f37)))) Q m s2)))) (Q (.exit 0) ⟨[(V.sl 0 0 x xc), V.un, V.snil, V.snil, (V.int .i64 i), (V.int .i64 i), (V.sl 0 0 x xc), (V.int .i64 ((x : Nat) : Int)), (V.bool (decide (i < ((x : Nat) : Int)))), t9, t10, t11, t12, t13, t14, t15, t16, t17, t18, V.un], [(V.tup [(V.ints .u8 xN xf)])]⟩)) := by kernel_rfl
theorem of_a (xN x xc : Nat) (xf : Nat → Int) (i : Int) (t5 t6 t7 t8 t9 t10 t11 t12 t13 t14 t15 t16 t17 t18 : V) (Q : Exit → St → Prop) (m : Nat) (h : (mB (decide (i < ((x : Nat) : Int))) (gB (decide (0 ≤ i ∧ i < x)) (gB (Nat.blt (0 + (Int.toNat i * 1)) xN) (∀ (c1 : Nat), (1 ≤ c1) → (∀ (u5 u6 u7 u8 u9 u10 u11 u12 u13 u14 u15 u16 u17 u18 : V), (lpW 1 (awp Tryd.prog o45 noG 300 (loopOf (body Tryd.f37)))) Q m ⟨[(V.sl 0 0 x xc), V.un, V.snil, (V.sl 1 0 1 c1), (V.int .i64 (addI .i64 i 1)), u5, u6, u7, u8, u9, u10, u11, u12, u13, u14, u15, u16, u17, u18, V.un], [(V.tup [(V.ints .u8 xN xf)]), (V.ints .i64 c1 (ap 0 1 (fun _ => 0) (up 0 (IntKind.wrap .i64 (xf (0 + (Int.toNat i * 1)))) (fun _ => 0)) 0))]⟩)))) (Q (.exit 0) ⟨[(V.sl 0 0 x xc), V.un, V.snil, V.snil, (V.int .i64 i), (V.int .i64 i), (V.sl 0 0 x xc), (V.int .i64 ((x : Nat) : Int)), (V.bool (decide (i < ((x : Nat) : Int)))), t9, t10, t11, t12, t13, t14, t15, t16, t17, t18, V.un], [(V.tup [(V.ints .u8 xN xf)])]⟩))) : (lpW 1 (awp Tryd.prog o45 noG 300 (loopOf (body Tryd.f37)))) Q (m + 1) ⟨[(V.sl 0 0 x xc), V.un, V.snil, V.snil, (V.int .i64 i), t5, t6, t7, t8, t9, t10, t11, t12, t13, t14, t15, t16, t17, t18, V.un], [(V.tup [(V.ints .u8 xN xf)])]⟩ := by
  rw [of_as]
  exact (mB_imp (fun h0 => (gB_imp (fun h1 => (gB_imp (fun h2 => (fun c1 q3 => (fun μ => ⟨_, gc_of [0, 2] (m2 := [(V.tup [(V.ints .u8 xN xf)]), (V.ints .i64 c1 (ap 0 1 (fun _ => 0) (up 0 (IntKind.wrap .i64 (xf (0 + (Int.toNat i * 1)))) (fun _ => 0)) 0))]) (by kernel_rfl) (by kernel_rfl) (by kernel_rfl), cast_lp (show (St.mk _ _) = ⟨[(V.sl 0 0 x xc), V.un, V.snil, (V.sl 1 0 1 c1), (V.int .i64 (addI .i64 i 1)), (V.int .i64 i), (V.sl 0 0 x xc), (V.int .i64 ((x : Nat) : Int)), (V.bool (decide (i < ((x : Nat) : Int)))), (V.int .i64 i), (V.int .i64 (addI .i64 i 1)), V.snil, (V.sl 0 0 x xc), (V.int .i64 i), (V.ptr 0 (0 + (Int.toNat i * 1))), (V.int .u8 (xf (0 + (Int.toNat i * 1)))), (V.int .i64 (IntKind.wrap .i64 (xf (0 + (Int.toNat i * 1))))), (V.any (V.den μ (V.sl 1 0 1 1))), (V.sl 1 0 1 c1), V.un], [(V.tup [(V.ints .u8 xN xf)]), (V.ints .i64 c1 (ap 0 1 (fun _ => 0) (up 0 (IntKind.wrap .i64 (xf (0 + (Int.toNat i * 1)))) (fun _ => 0)) 0))]⟩ by kernel_rfl) ((h2 c1 q3) (V.int .i64 i) (V.sl 0 0 x xc) (V.int .i64 ((x : Nat) : Int)) (V.bool (decide (i < ((x : Nat) : Int)))) (V.int .i64 i) (V.int .i64 (addI .i64 i 1)) V.snil (V.sl 0 0 x xc) (V.int .i64 i) (V.ptr 0 (0 + (Int.toNat i * 1))) (V.int .u8 (xf (0 + (Int.toNat i * 1)))) (V.int .i64 (IntKind.wrap .i64 (xf (0 + (Int.toNat i * 1))))) (V.any (V.den μ (V.sl 1 0 1 1))) (V.sl 1 0 1 c1))⟩))) h1)) h0)) (fun h0 => h0) h)
theorem of_ax (xN x xc : Nat) (xf : Nat → Int) (i : Int) (t5 t6 t7 t8 t9 t10 t11 t12 t13 t14 t15 t16 t17 t18 : V) (d : Made) : (spineW Tryd.prog o45 noG 1 300 (body Tryd.f37) (ends Tryd.prog Tryd.f37 fun v m => madeK d v m)) (.exit 0) ⟨[(V.sl 0 0 x xc), V.un, V.snil, V.snil, (V.int .i64 i), t5, t6, t7, t8, t9, t10, t11, t12, t13, t14, t15, t16, t17, t18, V.un], [(V.tup [(V.ints .u8 xN xf)])]⟩ = ((fun v m => madeK d v m) V.snil [(V.tup [(V.ints .u8 xN xf)])]) := by kernel_rfl
theorem of_bs (xN x xc : Nat) (xf : Nat → Int) (i : Int) (k c : Nat) (hh : Nat → Int) (t5 t6 t7 t8 t9 t10 t11 t12 t13 t14 t15 t16 t17 t18 : V) (Q : Exit → St → Prop) (m : Nat) : (lpW 1 (awp Tryd.prog o45 noG 300 (loopOf (body Tryd.f37)))) Q (m + 1) ⟨[(V.sl 0 0 x xc), V.un, V.snil, (V.sl 1 0 k c), (V.int .i64 i), t5, t6, t7, t8, t9, t10, t11, t12, t13, t14, t15, t16, t17, t18, V.un], [(V.tup [(V.ints .u8 xN xf)]), (V.ints .i64 c hh)]⟩ = (mB (decide (i < ((x : Nat) : Int))) (gB (decide (0 ≤ i ∧ i < x)) (gB (Nat.blt (0 + (Int.toNat i * 1)) xN) (mB (Nat.ble (k + 1) c) (gB (Nat.ble (0 + k + 1) c) (∀ μ : Mu, ∃ s2, Gc 1 μ ⟨[(V.sl 0 0 x xc), V.un, V.snil, (V.sl 1 0 (k + 1) c), (V.int .i64 (addI .i64 i 1)), (V.int .i64 i), (V.sl 0 0 x xc), (V.int .i64 ((x : Nat) : Int)), (V.bool (decide (i < ((x : Nat) : Int)))), (V.int .i64 i), (V.int .i64 (addI .i64 i 1)), (V.sl 1 0 k c), (V.sl 0 0 x xc), (V.int .i64 i), (V.ptr 0 (0 + (Int.toNat i * 1))), (V.int .u8 (xf (0 + (Int.toNat i * 1)))), (V.int .i64 (IntKind.wrap .i64 (xf (0 + (Int.toNat i * 1))))), (V.sl 2 0 1 1), (V.sl 1 0 (k + 1) c), V.un], [(V.tup [(V.ints .u8 xN xf)]), (V.ints .i64 c (spl (0 + k) 1 c (up 0 (IntKind.wrap .i64 (xf (0 + (Int.toNat i * 1)))) (fun _ => 0)) hh)), (V.ints .i64 1 (up 0 (IntKind.wrap .i64 (xf (0 + (Int.toNat i * 1)))) (fun _ => 0)))]⟩ s2 ∧ (lpW 1 (awp Tryd.prog o45 noG 300 (loopOf (body Tryd.f37)))) Q m s2)) (gB (Nat.ble (0 + k) c && Nat.ble (k + 1) 1048576) (∀ (c1 : Nat), (k + 1 ≤ c1) → (∀ μ : Mu, ∃ s2, Gc 1 μ ⟨[(V.sl 0 0 x xc), V.un, V.snil, (V.sl 3 0 (k + 1) c1), (V.int .i64 (addI .i64 i 1)), (V.int .i64 i), (V.sl 0 0 x xc), (V.int .i64 ((x : Nat) : Int)), (V.bool (decide (i < ((x : Nat) : Int)))), (V.int .i64 i), (V.int .i64 (addI .i64 i 1)), (V.sl 1 0 k c), (V.sl 0 0 x xc), (V.int .i64 i), (V.ptr 0 (0 + (Int.toNat i * 1))), (V.int .u8 (xf (0 + (Int.toNat i * 1)))), (V.int .i64 (IntKind.wrap .i64 (xf (0 + (Int.toNat i * 1))))), (V.sl 2 0 1 1), (V.sl 3 0 (k + 1) c1), V.un], [(V.tup [(V.ints .u8 xN xf)]), (V.ints .i64 c hh), (V.ints .i64 1 (up 0 (IntKind.wrap .i64 (xf (0 + (Int.toNat i * 1)))) (fun _ => 0))), (V.ints .i64 c1 (ap k 1 (sh 0 hh) (up 0 (IntKind.wrap .i64 (xf (0 + (Int.toNat i * 1)))) (fun _ => 0)) 0))]⟩ s2 ∧ (lpW 1 (awp Tryd.prog o45 noG 300 (loopOf (body Tryd.f37)))) Q m s2)))))) (Q (.exit 0) ⟨[(V.sl 0 0 x xc), V.un, V.snil, (V.sl 1 0 k c), (V.int .i64 i), (V.int .i64 i), (V.sl 0 0 x xc), (V.int .i64 ((x : Nat) : Int)), (V.bool (decide (i < ((x : Nat) : Int)))), t9, t10, t11, t12, t13, t14, t15, t16, t17, t18, V.un], [(V.tup [(V.ints .u8 xN xf)]), (V.ints .i64 c hh)]⟩)) := by kernel_rfl
theorem of_b (xN x xc : Nat) (xf : Nat → Int) (i : Int) (k c : Nat) (hh : Nat → Int) (t5 t6 t7 t8 t9 t10 t11 t12 t13 t14 t15 t16 t17 t18 : V) (Q : Exit → St → Prop) (m : Nat) (h : (mB (decide (i < ((x : Nat) : Int))) (gB (decide (0 ≤ i ∧ i < x)) (gB (Nat.blt (0 + (Int.toNat i * 1)) xN) (mB (Nat.ble (k + 1) c) (gB (Nat.ble (0 + k + 1) c) (∀ (u5 u6 u7 u8 u9 u10 u11 u12 u13 u14 u15 u16 u17 u18 : V), (lpW 1 (awp Tryd.prog o45 noG 300 (loopOf (body Tryd.f37)))) Q m ⟨[(V.sl 0 0 x xc), V.un, V.snil, (V.sl 1 0 (k + 1) c), (V.int .i64 (addI .i64 i 1)), u5, u6, u7, u8, u9, u10, u11, u12, u13, u14, u15, u16, u17, u18, V.un], [(V.tup [(V.ints .u8 xN xf)]), (V.ints .i64 c (spl (0 + k) 1 c (up 0 (IntKind.wrap .i64 (xf (0 + (Int.toNat i * 1)))) (fun _ => 0)) hh))]⟩)) (gB (Nat.ble (0 + k) c && Nat.ble (k + 1) 1048576) (∀ (c1 : Nat), (k + 1 ≤ c1) → (∀ (u5 u6 u7 u8 u9 u10 u11 u12 u13 u14 u15 u16 u17 u18 : V), (lpW 1 (awp Tryd.prog o45 noG 300 (loopOf (body Tryd.f37)))) Q m ⟨[(V.sl 0 0 x xc), V.un, V.snil, (V.sl 1 0 (k + 1) c1), (V.int .i64 (addI .i64 i 1)), u5, u6, u7, u8, u9, u10, u11, u12, u13, u14, u15, u16, u17, u18, V.un], [(V.tup [(V.ints .u8 xN xf)]), (V.ints .i64 c1 (ap k 1 (sh 0 hh) (up 0 (IntKind.wrap .i64 (xf (0 + (Int.toNat i * 1)))) (fun _ => 0)) 0))]⟩)))))) (Q (.exit 0) ⟨[(V.sl 0 0 x xc), V.un, V.snil, (V.sl 1 0 k c), (V.int .i64 i), (V.int .i64 i), (V.sl 0 0 x xc), (V.int .i64 ((x : Nat) : Int)), (V.bool (decide (i < ((x : Nat) : Int)))), t9, t10, t11, t12, t13, t14, t15, t16, t17, t18, V.un], [(V.tup [(V.ints .u8 xN xf)]), (V.ints .i64 c hh)]⟩))) : (lpW 1 (awp Tryd.prog o45 noG 300 (loopOf (body Tryd.f37)))) Q (m + 1) ⟨[(V.sl 0 0 x xc), V.un, V.snil, (V.sl 1 0 k c), (V.int .i64 i), t5, t6, t7, t8, t9, t10, t11, t12, t13, t14, t15, t16, t17, t18, V.un], [(V.tup [(V.ints .u8 xN xf)]), (V.ints .i64 c hh)]⟩ := by
  rw [of_bs]
  exact (mB_imp (fun h0 => (gB_imp (fun h1 => (gB_imp (fun h2 => (mB_imp (fun h3 => (gB_imp (fun h4 => (fun μ => ⟨_, gc_of [0, 1] (m2 := [(V.tup [(V.ints .u8 xN xf)]), (V.ints .i64 c (spl (0 + k) 1 c (up 0 (IntKind.wrap .i64 (xf (0 + (Int.toNat i * 1)))) (fun _ => 0)) hh))]) (by kernel_rfl) (by kernel_rfl) (by kernel_rfl), cast_lp (show (St.mk _ _) = ⟨[(V.sl 0 0 x xc), V.un, V.snil, (V.sl 1 0 (k + 1) c), (V.int .i64 (addI .i64 i 1)), (V.int .i64 i), (V.sl 0 0 x xc), (V.int .i64 ((x : Nat) : Int)), (V.bool (decide (i < ((x : Nat) : Int)))), (V.int .i64 i), (V.int .i64 (addI .i64 i 1)), (V.sl 1 0 k c), (V.sl 0 0 x xc), (V.int .i64 i), (V.ptr 0 (0 + (Int.toNat i * 1))), (V.int .u8 (xf (0 + (Int.toNat i * 1)))), (V.int .i64 (IntKind.wrap .i64 (xf (0 + (Int.toNat i * 1))))), (V.any (V.den μ (V.sl 2 0 1 1))), (V.sl 1 0 (k + 1) c), V.un], [(V.tup [(V.ints .u8 xN xf)]), (V.ints .i64 c (spl (0 + k) 1 c (up 0 (IntKind.wrap .i64 (xf (0 + (Int.toNat i * 1)))) (fun _ => 0)) hh))]⟩ by kernel_rfl) (h4 (V.int .i64 i) (V.sl 0 0 x xc) (V.int .i64 ((x : Nat) : Int)) (V.bool (decide (i < ((x : Nat) : Int)))) (V.int .i64 i) (V.int .i64 (addI .i64 i 1)) (V.sl 1 0 k c) (V.sl 0 0 x xc) (V.int .i64 i) (V.ptr 0 (0 + (Int.toNat i * 1))) (V.int .u8 (xf (0 + (Int.toNat i * 1)))) (V.int .i64 (IntKind.wrap .i64 (xf (0 + (Int.toNat i * 1))))) (V.any (V.den μ (V.sl 2 0 1 1))) (V.sl 1 0 (k + 1) c))⟩)) h3)) (fun h3 => (gB_imp (fun h4 => (fun c1 q5 => (fun μ => ⟨_, gc_of [0, 3] (m2 := [(V.tup [(V.ints .u8 xN xf)]), (V.ints .i64 c1 (ap k 1 (sh 0 hh) (up 0 (IntKind.wrap .i64 (xf (0 + (Int.toNat i * 1)))) (fun _ => 0)) 0))]) (by kernel_rfl) (by kernel_rfl) (by kernel_rfl), cast_lp (show (St.mk _ _) = ⟨[(V.sl 0 0 x xc), V.un, V.snil, (V.sl 1 0 (k + 1) c1), (V.int .i64 (addI .i64 i 1)), (V.int .i64 i), (V.sl 0 0 x xc), (V.int .i64 ((x : Nat) : Int)), (V.bool (decide (i < ((x : Nat) : Int)))), (V.int .i64 i), (V.int .i64 (addI .i64 i 1)), (V.any (V.den μ (V.sl 1 0 k c))), (V.sl 0 0 x xc), (V.int .i64 i), (V.ptr 0 (0 + (Int.toNat i * 1))), (V.int .u8 (xf (0 + (Int.toNat i * 1)))), (V.int .i64 (IntKind.wrap .i64 (xf (0 + (Int.toNat i * 1))))), (V.any (V.den μ (V.sl 2 0 1 1))), (V.sl 1 0 (k + 1) c1), V.un], [(V.tup [(V.ints .u8 xN xf)]), (V.ints .i64 c1 (ap k 1 (sh 0 hh) (up 0 (IntKind.wrap .i64 (xf (0 + (Int.toNat i * 1)))) (fun _ => 0)) 0))]⟩ by kernel_rfl) ((h4 c1 q5) (V.int .i64 i) (V.sl 0 0 x xc) (V.int .i64 ((x : Nat) : Int)) (V.bool (decide (i < ((x : Nat) : Int)))) (V.int .i64 i) (V.int .i64 (addI .i64 i 1)) (V.any (V.den μ (V.sl 1 0 k c))) (V.sl 0 0 x xc) (V.int .i64 i) (V.ptr 0 (0 + (Int.toNat i * 1))) (V.int .u8 (xf (0 + (Int.toNat i * 1)))) (V.int .i64 (IntKind.wrap .i64 (xf (0 + (Int.toNat i * 1))))) (V.any (V.den μ (V.sl 2 0 1 1))) (V.sl 1 0 (k + 1) c1))⟩))) h3)) h2)) h1)) h0)) (fun h0 => h0) h)
theorem of_bx (xN x xc : Nat) (xf : Nat → Int) (i : Int) (k c : Nat) (hh : Nat → Int) (t5 t6 t7 t8 t9 t10 t11 t12 t13 t14 t15 t16 t17 t18 : V) (d : Made) : (spineW Tryd.prog o45 noG 1 300 (body Tryd.f37) (ends Tryd.prog Tryd.f37 fun v m => madeK d v m)) (.exit 0) ⟨[(V.sl 0 0 x xc), V.un, V.snil, (V.sl 1 0 k c), (V.int .i64 i), t5, t6, t7, t8, t9, t10, t11, t12, t13, t14, t15, t16, t17, t18, V.un], [(V.tup [(V.ints .u8 xN xf)]), (V.ints .i64 c hh)]⟩ = ((fun v m => madeK d v m) (V.sl 1 0 k c) [(V.tup [(V.ints .u8 xN xf)]), (V.ints .i64 c hh)]) := by kernel_rfl
def ofD (x : Nat) (f : Nat → Int) : Made := ⟨.i64, x, fun j => IntKind.wrap .i64 (f j), fun id cap => .sl id 0 x cap⟩
theorem of_l (xN x xc : Nat) (xf : Nat → Int) (hx : x ≤ xN) (h9 : x ≤ 299) : ∀ (r k c m : Nat) (hh : Nat → Int), k + r = x → r + 1 ≤ m → Has k c (fun j => IntKind.wrap .i64 (xf j)) hh → ∀ (t5 t6 t7 t8 t9 t10 t11 t12 t13 t14 t15 t16 t17 t18 : V),
    (lpW 1 (awp Tryd.prog o45 noG 300 (loopOf (body Tryd.f37)))) ((spineW Tryd.prog o45 noG 1 300 (body Tryd.f37) (ends Tryd.prog Tryd.f37 fun v m => madeK (ofD x xf) v m))) m ⟨[(V.sl 0 0 x xc), V.un, V.snil, (V.sl 1 0 k c), (V.int .i64 (k : Int)), t5, t6, t7, t8, t9, t10, t11, t12, t13, t14, t15, t16, t17, t18, V.un], [(V.tup [(V.ints .u8 xN xf)]), (V.ints .i64 c hh)]⟩
  | 0, k, c, m, hh, hk, hm, hH, t5, t6, t7, t8, t9, t10, t11, t12, t13, t14, t15, t16, t17, t18 => by
    obtain ⟨m, rfl⟩ : ∃ z, m = z + 1 := ⟨m - 1, by omega⟩
    refine of_b _ _ _ _ _ _ _ _ _ _ _ _ _ _ _ _ _ _ _ _ _ _ _ _ ?_
    refine mBt (fun h => absurd (of_decide_eq_true h) (by omega)) (fun _ => ?_)
    rw [of_bx]
    obtain rfl : k = x := by omega
    exact ⟨1, c, hh, fun μ => rfl, rfl, hH⟩
  | r + 1, k, c, m, hh, hk, hm, hH, t5, t6, t7, t8, t9, t10, t11, t12, t13, t14, t15, t16, t17, t18 => by
    obtain ⟨m, rfl⟩ : ∃ z, m = z + 1 := ⟨m - 1, by omega⟩
    refine of_b _ _ _ _ _ _ _ _ _ _ _ _ _ _ _ _ _ _ _ _ _ _ _ _ ?_
    have hnx : addI .i64 (k : Int) 1 = ((k + 1 : Nat) : Int) := add1_nat k (by omega)
    have hix : 0 + (Int.toNat (k : Int) * 1) = k := by rw [Int.toNat_natCast]; omega
    rw [hnx, hix]
    refine mBt (fun _ => gm (decide_eq_true (by omega)) (gm (bltT.2 (by omega)) (mBt (fun hr => gm (ble_t (by have := bleT.1 hr; omega)) fun u5 u6 u7 u8 u9 u10 u11 u12 u13 u14 u15 u16 u17 u18 => ?_) (fun _ => gm (gb1 hH.1 (by omega)) fun c1 hc1 u5 u6 u7 u8 u9 u10 u11 u12 u13 u14 u15 u16 u17 u18 => ?_)))) (fun h => absurd (of_decide_eq_false h) (by omega))
    · exact of_l xN x xc xf hx h9 r (k + 1) c m _ (by omega) (by omega) (has_room hH (bleT.1 hr) rfl) _ _ _ _ _ _ _ _ _ _ _ _ _ _
    · exact of_l xN x xc xf hx h9 r (k + 1) c1 m _ (by omega) (by omega) (has_grow hH.2 hc1 rfl) _ _ _ _ _ _ _ _ _ _ _ _ _ _
theorem of_all {xN x xc : Nat} {xf : Nat → Int} (h0 : 1 ≤ x) (hx : x ≤ xN) (h9 : x ≤ 299) : awq Tryd.prog o45 noG 1 300 (body Tryd.f37) (ends Tryd.prog Tryd.f37 fun v m => madeK (ofD x xf) v m) ⟨[(V.sl 0 0 x xc)] ++ List.replicate 19 V.un, [(V.tup [(V.ints .u8 xN xf)])]⟩ := by
  rw [of_h]
  refine of_a _ _ _ _ _ _ _ _ _ _ _ _ _ _ _ _ _ _ _ _ _ ?_
  have hnx : addI .i64 ((0 : Nat) : Int) 1 = ((1 : Nat) : Int) := add1_nat 0 (by omega)
  refine mBt (fun _ => gm (decide_eq_true (by omega)) (gm (bltT.2 (by show 0 < _; omega)) fun c1 hc1 u5 u6 u7 u8 u9 u10 u11 u12 u13 u14 u15 u16 u17 u18 => ?_)) (fun h => absurd (of_decide_eq_false h) (by omega))
  exact of_l xN x xc xf hx h9 (x - 1) 1 c1 299 _ (by omega) (by omega) (has_first hc1 rfl) _ _ _ _ _ _ _ _ _ _ _ _ _ _
def g37 : List V → List V → Option (Bool × Made) := fun vs m => match views [] vs m with
  | some ([.sl 0 0 x xc], [.tup [.ints .u8 xN xf]]) => some (Nat.ble 1 x && Nat.ble x xN && Nat.ble x 299, ofD x xf)
  | _ => none
def exG37 (G : GOrc) : GOrc := mkG 37 g37 G
theorem G37_ok {G : GOrc} (hG : GOrcOK Tryd.prog G) : GOrcOK Tryd.prog (exG37 G) := by
  refine mkG_ok hG fun vs m d h K hK => ?_
  unfold g37 at h
  split at h
  · rename_i x xc xN xf hv
    simp only [Option.some.injEq, Prod.mk.injEq, Bool.and_eq_true] at h
    obtain ⟨⟨⟨h1, h2⟩, h3⟩, rfl⟩ := h
    exact makes_awq (fn := Tryd.f37) (N := 300) (n := 19) hM o45_ok (noG_ok _) Tryd.func37 (by kernel_rfl) (by kernel_rfl) hv (fun μ μ' i i' cap hi => by simp [ofD, V.den, hi]) (fun ρ i cap => by simp [ofD, V.ren]) (of_all (bleT.1 h1) (bleT.1 h2) (bleT.1 h3)) (by kernel_rfl) (by kernel_rfl) hK
  · cases h
end Go.Proofs.YtnoehjibponofaaDoor
