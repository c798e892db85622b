/-
  From a call's contract to the row: arrays of integers by value, opened and shut; what stands behind a law. Conditions: none.
-/
import Derived.Test.YtbnclikjbnfodaaFvI
import Derived.ProofKit
import Derived.OpenShut
namespace Go.Ev
open Go.RowKit Go.ChangeShapes Go.WideShapes Go.ChangeAt

section
variable {H : Type} {enc : TypeId × Value → H} {P : Program} {w : World} {base : Nat} {spare : Nat → Bool} {held : Bool}

/-- The data of an array of integers. -/
def dArr (k : IntKind) (n : Nat) (f : Nat → Int) : DataW H := .agg ((List.range n).map fun j => .lit (.int k (f j)))

/-- An array of integers by value. -/
theorem open_ints_arr {r : Reach} {b0 : Nat} {t e : TypeId} {k : IntKind} {n : Nat} {v : Value} {d : DataW H} {p : List MemPlace} (ht : P.underlying t = some (.array n e)) (he : P.underlying e = some (.int k)) (hc : P.cellsOf e = 1) (hct : P.cellsOf t = n)
    (hv : Value.okWide P w r b0 t v) (h : DataW.Trod enc P w base spare held t v d p) :
    ∃ f : Nat → Int, v = (V.ints k n f).den z0 ∧ d = dArr k n f ∧ p = [] ∧ ∀ j, j < n → (Lit.int k (f j)).wf = true := by
  obtain ⟨fuel, hf⟩ := h
  have hv' := hv
  unfold Value.okWide at hv'
  rw [ht] at hv'
  obtain ⟨cs, rfl, hsz, _⟩ := hv'
  obtain ⟨xs, m, rfl, hx, hlen, hxl, hel⟩ := DataW.trod_array ht hf
  simp only [Value.cells] at hlen hel
  have key : ∀ i, i < n → ∃ q, cs.toList[i]? = some (.int k q) ∧ xs[i]? = some (.lit (.int k q), []) ∧ (Lit.int k q).wf = true := by
    intro i hi
    have h1 := hel i hi
    rw [hc, Nat.mul_one] at h1
    have hxi : xs[i]? = some xs[i] := List.getElem?_eq_getElem (by omega)
    rw [hxi] at h1
    obtain ⟨q, e1, e2, e3⟩ := DataW.trod_int he h1
    refine ⟨q, ?_, by rw [hxi, e2], e3⟩
    have := congrArg (fun l => l[0]?) e1
    simpa [List.getElem?_take, List.getElem?_drop] using this
  have hcn : cs.toList.length = n := hlen.trans hct
  let f : Nat → Int := fun i => match cs.toList[i]? with | some (.int _ q) => q | _ => 0
  have hf' : ∀ i, i < n → cs.toList[i]? = some (.int k (f i)) ∧ xs[i]? = some (.lit (.int k (f i)), []) ∧ (Lit.int k (f i)).wf = true := by
    intro i hi
    obtain ⟨q, hq, hx, hw⟩ := key i hi
    have : f i = q := by show (match cs.toList[i]? with | some (.int _ q) => q | _ => 0) = q; rw [hq]
    rw [this]; exact ⟨hq, hx, hw⟩
  refine ⟨f, ?_, ?_, ?_, fun j hj => (hf' j hj).2.2⟩
  · simp only [V.den]
    congr 1
    rw [← Array.toList_inj]
    apply List.ext_getElem?
    intro i
    by_cases hi : i < n
    · rw [(hf' i hi).1]; simp [hi]
    · rw [List.getElem?_eq_none (by omega)]; simp [hi]
  · simp only [Prod.mk.injEq] at hx
    rw [hx.1]
    unfold dArr
    congr 1
    apply List.ext_getElem?
    intro i
    by_cases hi : i < n
    · simp [(hf' i hi).2.1, hi]
    · simp only [List.getElem?_map]; rw [List.getElem?_eq_none (by omega)]; simp [hi]
  · simp only [Prod.mk.injEq] at hx
    rw [hx.2]
    rw [List.flatMap_eq_nil_iff]
    intro y hy
    obtain ⟨i, hi, rfl⟩ := List.mem_iff_getElem.1 hy
    have := (hf' i (by omega)).2.1
    rw [List.getElem?_eq_getElem hi] at this
    simp only [Option.some.injEq] at this
    rw [this]

theorem shut_ints_arr {t e : TypeId} {k : IntKind} {n : Nat} {f : Nat → Int} (ht : P.underlying t = some (.array n e)) (he : P.underlying e = some (.int k)) (hc : P.cellsOf e = 1) (hct : P.cellsOf t = n) (hw : ∀ j, j < n → (Lit.int k (f j)).wf = true) :
    DataW.Trod enc P w base spare held t ((V.ints k n f).den z0) (dArr k n f) [] := by
  refine ⟨2, ?_⟩
  unfold DataW.trod
  simp only [ht, V.den, Value.cells]
  have hm : (List.range n).mapM (fun i => DataW.trod enc P w base spare held 1 e (((((List.range n).map fun j => Value.int k (f j))).drop (i * P.cellsOf e)).take (P.cellsOf e))) = some ((List.range n).map fun j => ((.lit (.int k (f j)) : DataW H), ([] : List MemPlace))) := by
    have : ∀ l : List Nat, (∀ i ∈ l, i < n) → l.mapM (fun i => DataW.trod enc P w base spare held 1 e (((((List.range n).map fun j => Value.int k (f j))).drop (i * P.cellsOf e)).take (P.cellsOf e))) = some (l.map fun j => ((.lit (.int k (f j)) : DataW H), ([] : List MemPlace))) := by
      intro l
      induction l with
      | nil => intro _; rfl
      | cons i l ih =>
        intro hl
        have hi := hl i (by simp)
        have e1 : (((((List.range n).map fun j => Value.int k (f j))).drop (i * P.cellsOf e)).take (P.cellsOf e)) = [.int k (f i)] := by
          rw [hc, Nat.mul_one]
          apply List.ext_getElem?
          intro m
          cases m with
          | zero => simp [hi]
          | succ m => simp; omega
        rw [List.mapM_cons, e1, ih (fun x hx => hl x (by simp [hx]))]
        simp [DataW.trod, he, hw i hi]
    exact this _ fun i hi => List.mem_range.1 hi
  simp only [List.length_map, List.length_range, hct, if_true, hm, Option.map_some, List.map_map]
  congr 1
  simp [dArr, Function.comp_def, List.flatMap_eq_nil_iff]

/-- What stands behind a law: it answers true, nothing of others has turned. -/
theorem post_law {f : Func} {s : ChangeSpec} {apart handsOn : Bool} {W W' : World} {args : Array Value} {v : Value} {ds gs : List (DataW H)} {before pa pv : List MemPlace}
    (hW : DataW.Whole enc P f.params.toList s.vars apart W args.toList ds gs before)
    (hres : DataW.TrodAll enc P W' W.heap.size (fun _ => false) handsOn f.resultTypes.toList (v.resultList f.resultTypes.size) (s.fn H (ds ++ gs)).results [])
    (hargs : DataW.TrodAll enc P W' 0 (fun b => decide (b < W.heap.size)) true f.params.toList args.toList (s.fn H (ds ++ gs)).args pa)
    (hvars : DataW.TrodVars enc P W' (fun b => decide (b < W.heap.size)) s.vars (s.fn H (ds ++ gs)).vars pv)
    (hb : Below W.heap.size W W') : s.post enc P f apart true handsOn false W args v W' :=
  ⟨ds, gs, before, [], pa, pv, hW, hres, hargs, hvars, hb.frame _, fun h => by simp at h⟩

end
end Go.Ev

namespace Go.Ev
/-- A function with a body is entered. -/
theorem no_value {P : Program} {f : FuncId} {fn : Func} {args : Array Value} {v : Value} {w : World} (hf : P.funcs[f]? = some fn) (hb : fn.body.isSome = true) (hn : (fn.name == "runtime.NumGoroutine") = false) (h : (callFunc f args).run P w = .ok (.value v) w) : False := by
  obtain ⟨c, hc⟩ := Option.isSome_iff_exists.1 hb
  rw [callFunc_body hf hc hn] at h
  simp at h

theorem wf_u64 {n : Int} (h : (Lit.int .u64 n).wf = true) : 0 ≤ n ∧ n < 18446744073709551616 := by
  simp only [Lit.wf, Bool.and_eq_true, decide_eq_true_eq] at h
  simp [IntKind.min, IntKind.max, IntKind.signed, IntKind.bits] at h
  omega
theorem wf_u8 {n : Int} (h : (Lit.int .u8 n).wf = true) : 0 ≤ n ∧ n < 256 := by
  simp only [Lit.wf, Bool.and_eq_true, decide_eq_true_eq] at h
  simp [IntKind.min, IntKind.max, IntKind.signed, IntKind.bits] at h
  omega
end Go.Ev
