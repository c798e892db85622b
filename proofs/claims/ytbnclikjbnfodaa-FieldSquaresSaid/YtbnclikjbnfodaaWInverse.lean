import Derived.Test.YtbnclikjbnfodaaWRing
import Derived.Test.YtbnclikjbnfodaaRows
namespace Go.Proofs.Ytbnclikjbnfodaa
open Go.Ev
theorem countsBO_ex : ∃ f : Bool, f = countsB := ⟨_, rfl⟩
/-- countsB, by a name that is not unfolded. -/
noncomputable def countsBO : Bool := Classical.choose countsBO_ex
theorem countsBO_eq : countsBO = countsB := Classical.choose_spec countsBO_ex
noncomputable def g50O : List V → Option (Bool × V) := fun | [] => some (true, (V.bool countsBO)) | _ => none
theorem g50O_ok (vs : List V) (v : V) (h : g50O vs = some (true, v)) : (∀ μ μ', v.den μ' = v.den μ) ∧ ∀ μ w, PureAt Try.prog 50 (vs.map (V.den μ)).toArray (v.den μ) w := by
  unfold g50O at h
  split at h
  · simp only [Option.some.injEq, Prod.mk.injEq, true_and] at h
    subst h
    rw [countsBO_eq]
    exact countsB_p
  · simp at h
noncomputable def o50O : Orc := ext 50 g50O o50
theorem o50O_ok : OrcOK Try.prog o50O := ext_ok o50_ok g50O_ok

/- fareboxlaw05.power -/
noncomputable def lawPow (low : Int) (high : Int) : (Nat → Int) := (L [low, 255, 255, 255, 255, 255, 255, 255, 255, 255, 255, 255, 255, 255, 255, 255, 255, 255, 255, 255, 255, 255, 255, 255, 255, 255, 255, 255, 255, 255, 255, high])
theorem lawPow_t (low : Int) (high : Int) : awp Try.prog o50O noG 300 (body Try.f51) (ends Try.prog Try.f51 fun v _ => okV (V.ints .u8 32 (lawPow low high)) v) ⟨[(V.int .u8 low), (V.int .u8 high)] ++ List.replicate 16 V.un, []⟩ = ((V.ints .u8 32 (lawPow low high)).den z0 = (V.ints .u8 32 (lawPow low high)).den z0) := by kernel_rfl
theorem lawPow_a (low : Int) (high : Int) : awp Try.prog o50O noG 300 (body Try.f51) (ends Try.prog Try.f51 fun v _ => okV (V.ints .u8 32 (lawPow low high)) v) ⟨[(V.int .u8 low), (V.int .u8 high)] ++ List.replicate 16 V.un, []⟩ := by rw [lawPow_t]
noncomputable def g51 : List V → Option (Bool × V) := fun | [.int .u8 low, .int .u8 high] => some (true, (V.ints .u8 32 (lawPow low high))) | _ => none
theorem lawPow_p (low : Int) (high : Int) : (∀ μ μ', V.den μ' (V.ints .u8 32 (lawPow low high)) = V.den μ (V.ints .u8 32 (lawPow low high))) ∧ ∀ μ w, PureAt Try.prog 51 (([(V.int .u8 low), (V.int .u8 high)] : List V).map (V.den μ)).toArray (V.den μ (V.ints .u8 32 (lawPow low high))) w :=
  pure_ok (F := o50O) (N := 300) (fn := Try.f51) (args := [(V.int .u8 low), (V.int .u8 high)]) (r := (V.ints .u8 32 (lawPow low high))) (n := 16) hM o50O_ok (noG_ok _) Try.func51 (by kernel_rfl) (by kernel_rfl) (by kernel_rfl) (by kernel_rfl) (lawPow_a low high) (by kernel_rfl)
theorem g51_ok (vs : List V) (v : V) (h : g51 vs = some (true, v)) : (∀ μ μ', v.den μ' = v.den μ) ∧ ∀ μ w, PureAt Try.prog 51 (vs.map (V.den μ)).toArray (v.den μ) w := by
  unfold g51 at h
  split at h
  · simp only [Option.some.injEq, Prod.mk.injEq, true_and] at h
    subst h
    exact lawPow_p _ _
  · simp at h
noncomputable def o51 : Orc := ext 51 g51 o50O
theorem o51_ok : OrcOK Try.prog o51 := ext_ok o50O_ok g51_ok

/-- What goes over when two numbers of 16 bytes are summed. -/
noncomputable def iO (a b : Nat → Int) : Nat → Int
  | 0 => 0
  | k + 1 => quoI .i64 (addI .i64 (addI .i64 (iO a b k) (IntKind.wrap .i64 (a k))) (IntKind.wrap .i64 (b k))) 256
noncomputable def iE (a : Nat → Int) : Nat → Int := (up 15 (a 15) (up 14 (a 14) (up 13 (a 13) (up 12 (a 12) (up 11 (a 11) (up 10 (a 10) (up 9 (a 9) (up 8 (a 8) (up 7 (a 7) (up 6 (a 6) (up 5 (a 5) (up 4 (a 4) (up 3 (a 3) (up 2 (a 2) (up 1 (a 1) (up 0 (a 0) (fun _ => 0)))))))))))))))))
noncomputable def iS (a b : Nat → Int) : Nat → Int := (up 16 (IntKind.wrap .u8 (iO a b 16)) (up 15 (IntKind.wrap .u8 (remI (addI .i64 (addI .i64 (iO a b 15) (IntKind.wrap .i64 (a 15))) (IntKind.wrap .i64 (b 15))) 256)) (up 14 (IntKind.wrap .u8 (remI (addI .i64 (addI .i64 (iO a b 14) (IntKind.wrap .i64 (a 14))) (IntKind.wrap .i64 (b 14))) 256)) (up 13 (IntKind.wrap .u8 (remI (addI .i64 (addI .i64 (iO a b 13) (IntKind.wrap .i64 (a 13))) (IntKind.wrap .i64 (b 13))) 256)) (up 12 (IntKind.wrap .u8 (remI (addI .i64 (addI .i64 (iO a b 12) (IntKind.wrap .i64 (a 12))) (IntKind.wrap .i64 (b 12))) 256)) (up 11 (IntKind.wrap .u8 (remI (addI .i64 (addI .i64 (iO a b 11) (IntKind.wrap .i64 (a 11))) (IntKind.wrap .i64 (b 11))) 256)) (up 10 (IntKind.wrap .u8 (remI (addI .i64 (addI .i64 (iO a b 10) (IntKind.wrap .i64 (a 10))) (IntKind.wrap .i64 (b 10))) 256)) (up 9 (IntKind.wrap .u8 (remI (addI .i64 (addI .i64 (iO a b 9) (IntKind.wrap .i64 (a 9))) (IntKind.wrap .i64 (b 9))) 256)) (up 8 (IntKind.wrap .u8 (remI (addI .i64 (addI .i64 (iO a b 8) (IntKind.wrap .i64 (a 8))) (IntKind.wrap .i64 (b 8))) 256)) (up 7 (IntKind.wrap .u8 (remI (addI .i64 (addI .i64 (iO a b 7) (IntKind.wrap .i64 (a 7))) (IntKind.wrap .i64 (b 7))) 256)) (up 6 (IntKind.wrap .u8 (remI (addI .i64 (addI .i64 (iO a b 6) (IntKind.wrap .i64 (a 6))) (IntKind.wrap .i64 (b 6))) 256)) (up 5 (IntKind.wrap .u8 (remI (addI .i64 (addI .i64 (iO a b 5) (IntKind.wrap .i64 (a 5))) (IntKind.wrap .i64 (b 5))) 256)) (up 4 (IntKind.wrap .u8 (remI (addI .i64 (addI .i64 (iO a b 4) (IntKind.wrap .i64 (a 4))) (IntKind.wrap .i64 (b 4))) 256)) (up 3 (IntKind.wrap .u8 (remI (addI .i64 (addI .i64 (iO a b 3) (IntKind.wrap .i64 (a 3))) (IntKind.wrap .i64 (b 3))) 256)) (up 2 (IntKind.wrap .u8 (remI (addI .i64 (addI .i64 (iO a b 2) (IntKind.wrap .i64 (a 2))) (IntKind.wrap .i64 (b 2))) 256)) (up 1 (IntKind.wrap .u8 (remI (addI .i64 (addI .i64 (iO a b 1) (IntKind.wrap .i64 (a 1))) (IntKind.wrap .i64 (b 1))) 256)) (up 0 (IntKind.wrap .u8 (remI (addI .i64 (addI .i64 (iO a b 0) (IntKind.wrap .i64 (a 0))) (IntKind.wrap .i64 (b 0))) 256)) (fun _ => 0))))))))))))))))))

/- fareboxlaw05.FieldInverse -/
noncomputable def lawInverse (x : (Nat → Int)) (a : (Nat → Int)) (b : (Nat → Int)) : Bool := (cond (isZeroFO x) (cond (isZeroFO (invertFO x)) countsBO false) (cond (!(eqN 5 (mulFO x (invertFO x)) (smallFO 1))) false (cond (!(eqN 5 (powFO x (lawPow 236 127)) (smallFO 1))) false (cond (!(eqN 5 (invertFO (invertFO x)) (selectFO true x (invertFO x)))) false (cond (eqN 5 (mulFO (powFO x (iE a)) (powFO x (iE b))) (powFO x (iS a b))) (cond (eqN 5 (powFO x (up 0 1 (fun _ => 0))) (selectFO true x (invertFO x))) (cond (eqN 5 (powFO x (fun _ => 0)) (smallFO 1)) countsBO false) false) false)))))
theorem lawInverse_t (x : (Nat → Int)) (a : (Nat → Int)) (b : (Nat → Int)) : awp Try.prog o51 noG 300 (body Try.f9) (ends Try.prog Try.f9 fun v _ => okV (V.bool (lawInverse x a b)) v) ⟨[(V.ints .u64 5 x), (V.ints .u8 16 a), (V.ints .u8 16 b)] ++ List.replicate 106 V.un, []⟩ = (mB (isZeroFO x) (mB (isZeroFO (invertFO x)) ((V.bool countsBO).den z0 = (V.bool (lawInverse x a b)).den z0) ((V.bool false).den z0 = (V.bool (lawInverse x a b)).den z0)) (mB (!(eqN 5 (mulFO x (invertFO x)) (smallFO 1))) ((V.bool false).den z0 = (V.bool (lawInverse x a b)).den z0) (mB (!(eqN 5 (powFO x (lawPow 236 127)) (smallFO 1))) ((V.bool false).den z0 = (V.bool (lawInverse x a b)).den z0) (mB (!(eqN 5 (invertFO (invertFO x)) (selectFO true x (invertFO x)))) ((V.bool false).den z0 = (V.bool (lawInverse x a b)).den z0) (mB (eqN 5 (mulFO (powFO x (iE a)) (powFO x (iE b))) (powFO x (iS a b))) (mB (eqN 5 (powFO x (up 0 1 (fun _ => 0))) (selectFO true x (invertFO x))) (mB (eqN 5 (powFO x (fun _ => 0)) (smallFO 1)) ((V.bool countsBO).den z0 = (V.bool (lawInverse x a b)).den z0) ((V.bool false).den z0 = (V.bool (lawInverse x a b)).den z0)) ((V.bool false).den z0 = (V.bool (lawInverse x a b)).den z0)) ((V.bool false).den z0 = (V.bool (lawInverse x a b)).den z0)))))) := by kernel_rfl
theorem lawInverse_a (x : (Nat → Int)) (a : (Nat → Int)) (b : (Nat → Int)) : awp Try.prog o51 noG 300 (body Try.f9) (ends Try.prog Try.f9 fun v _ => okV (V.bool (lawInverse x a b)) v) ⟨[(V.ints .u64 5 x), (V.ints .u8 16 a), (V.ints .u8 16 b)] ++ List.replicate 106 V.un, []⟩ := by
  rw [lawInverse_t]
  refine mBt (fun h1 => ?_) (fun h1 => ?_)
  · refine mBt (fun h2 => ?_) (fun h2 => ?_)
    · simp only [lawInverse, h1, h2, cond_true]
    · simp only [lawInverse, h1, h2, cond_true, cond_false]
  · refine mBt (fun h2 => ?_) (fun h2 => ?_)
    · simp only [lawInverse, h1, h2, cond_true, cond_false]
    · refine mBt (fun h3 => ?_) (fun h3 => ?_)
      · simp only [lawInverse, h1, h2, h3, cond_true, cond_false]
      · refine mBt (fun h4 => ?_) (fun h4 => ?_)
        · simp only [lawInverse, h1, h2, h3, h4, cond_true, cond_false]
        · refine mBt (fun h5 => ?_) (fun h5 => ?_)
          · refine mBt (fun h6 => ?_) (fun h6 => ?_)
            · refine mBt (fun h7 => ?_) (fun h7 => ?_)
              · simp only [lawInverse, h1, h2, h3, h4, h5, h6, h7, cond_true, cond_false]
              · simp only [lawInverse, h1, h2, h3, h4, h5, h6, h7, cond_true, cond_false]
            · simp only [lawInverse, h1, h2, h3, h4, h5, h6, cond_true, cond_false]
          · simp only [lawInverse, h1, h2, h3, h4, h5, cond_false]
noncomputable def g9 : List V → Option (Bool × V) := fun | [.ints .u64 5 x, .ints .u8 16 a, .ints .u8 16 b] => some (true, (V.bool (lawInverse x a b))) | _ => none
theorem lawInverse_p (x : (Nat → Int)) (a : (Nat → Int)) (b : (Nat → Int)) : (∀ μ μ', V.den μ' (V.bool (lawInverse x a b)) = V.den μ (V.bool (lawInverse x a b))) ∧ ∀ μ w, PureAt Try.prog 9 (([(V.ints .u64 5 x), (V.ints .u8 16 a), (V.ints .u8 16 b)] : List V).map (V.den μ)).toArray (V.den μ (V.bool (lawInverse x a b))) w :=
  pure_ok (F := o51) (N := 300) (fn := Try.f9) (args := [(V.ints .u64 5 x), (V.ints .u8 16 a), (V.ints .u8 16 b)]) (r := (V.bool (lawInverse x a b))) (n := 106) hM o51_ok (noG_ok _) Try.func9 (by kernel_rfl) (by kernel_rfl) (by kernel_rfl) (by kernel_rfl) (lawInverse_a x a b) (by kernel_rfl)
theorem g9_ok (vs : List V) (v : V) (h : g9 vs = some (true, v)) : (∀ μ μ', v.den μ' = v.den μ) ∧ ∀ μ w, PureAt Try.prog 9 (vs.map (V.den μ)).toArray (v.den μ) w := by
  unfold g9 at h
  split at h
  · simp only [Option.some.injEq, Prod.mk.injEq, true_and] at h
    subst h
    exact lawInverse_p _ _ _
  · simp at h
noncomputable def o9 : Orc := ext 9 g9 o51
theorem o9_ok : OrcOK Try.prog o9 := ext_ok o51_ok g9_ok
end Go.Proofs.Ytbnclikjbnfodaa
