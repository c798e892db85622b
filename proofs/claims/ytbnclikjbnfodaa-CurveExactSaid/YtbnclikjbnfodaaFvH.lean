/-
  The evaluator over code; a call is what the evaluator says of its body. Conditions: none.
-/
import Derived.Test.YtbnclikjbnfodaaFvG
import Derived.LoopN
import Derived.Scope
namespace Go.Ev
open RowKit (Below)

/-- What is asked of a piece of code in a state. N: how many rounds a loop may take. -/
def awp (P : Program) (F : Orc) (G : GOrc) (N : Nat) : Code → (Exit → St → Prop) → St → Prop
  | .skip, Q, s => Q .normal s
  | .region _ ops draw, Q, s => match draw with
    | false => aops P F G ops ops.toList (Q .normal) s
    | true => match drawG ops with
      | true => aops P F G ops ops.toList (Q .normal) s
      | false => match wantsG P ops with
        | true => anyG P F G ops ops.size (List.range ops.size) (Q .normal) s
        | false => match wantsQ P F ops with
          | true => pru P F G ops (masks ops.toList []) ops.size (List.range ops.size) (Q .normal) s
          | false => match drawOK ops with
            | true => aops P F noG ops ops.toList (Q .normal) s
            | false => match pairAt ops with
              | some a => match drawOK2 ops a with
                | true => aops P F noG ops ops.toList (Q .normal) s ∧ aops' P F noG ops ((List.range ops.size).map (sw a)) (Q .normal) s
                | false => pru P F G ops (masks ops.toList []) ops.size (List.range ops.size) (Q .normal) s
              | none => pru P F G ops (masks ops.toList []) ops.size (List.range ops.size) (Q .normal) s
  | .seq a b, Q, s => awp P F G N a (fun e s' => match e with | .normal => awp P F G N b Q s' | e => Q e s') s
  | .cond c x y, Q, s => match ev s.tmps c with
    | some (.bool b) => match b with
      | true => awp P F G N x Q s
      | false => awp P F G N y Q s
    | _ => False
  | .block id c, Q, s => awp P F G N c (fun e s' => match e with
    | .exit j => (match Nat.beq j id with | true => Q .normal s' | false => Q (.exit j) s')
    | e => Q e s') s
  | .loop c, Q, s => lp (awp P F G N c) Q N s
  | .exit id, Q, s => Q (.exit id) s
  | .ret, Q, s => Q .ret s
  | .scope c, Q, s => awp P F G N c (fun e s' => match e with | .goto _ => False | e => Q e s') s
  | .label _, Q, s => Q .normal s
  | _, _, _ => False

section
variable {P : Program} {F : Orc} {G : GOrc}

def After2 (C : Ctx) (Q : Exit → St → Prop) (e : Exit) (a : Act) (w : World) : Prop := ∃ s μ, Q e s ∧ RelA C μ s a w

theorem awp_sound (hM : P.follows .mixedOrders = true) (hF : OrcOK P F) (hG : GOrcOK P G) {C : Ctx} (hB : Under C.B C.w0) {N : Nat} :
    ∀ {c : Code} {Q : Exit → St → Prop} {s : St} {μ : Mu} {a : Act} {w : World}, awp P F G N c Q s → RelA C μ s a w → c.wp P (After2 C Q) a w
  | .skip, Q, s, μ, a, w, h, hr => wp_skip ⟨s, μ, h, hr⟩
  | .region id ops draw, Q, s, μ, a, w, h, hr => by
    cases draw with
    | false =>
      simp only [awp] at h
      refine wp_region ?_
      rw [aops_idx (k := 0) (fun j => by simp)] at h
      rw [List.range_eq_range']
      exact aops'_sound hF hG hB (fun a w ⟨s, μ, h, hr⟩ => ⟨s, μ, h, hr⟩) (by simpa using h) hr
    | true =>
      simp only [awp] at h
      split at h
      · rename_i hd
        rw [aops_idx (k := 0) (fun j => by simp)] at h
        refine wp_region_any hM ?_
        have hrem : remOf ops.size (Array.replicate ops.size false) = List.range' 0 ops.toList.length := by
          unfold remOf
          rw [List.filter_eq_self.2, List.range_eq_range', Array.length_toList]
          intro x hx
          have := List.mem_range.1 hx
          simp [this]
        refine draw_anyG (K := Q .normal) hF hG hB hd (fun a w ⟨s, μ, h, hr⟩ => ⟨s, μ, h, hr⟩) ops.size _ s μ a _ (by rw [hrem]; simp) (by simp) ?_ (by rw [hrem]; exact h) (hr.drawn _)
        intro j oj hj hl
        exfalso
        by_cases hjn : j < ops.size <;> simp [hjn] at hl
      · split at h
        · refine wp_region_any hM ?_
          have hrem : remOf ops.size (Array.replicate ops.size false) = List.range ops.size := by
            unfold remOf
            rw [List.filter_eq_self.2]
            intro x hx
            have := List.mem_range.1 hx
            simp [this]
          exact draw_all (K := Q .normal) hF hG hB (fun a w ⟨s, μ, h, hr⟩ => ⟨s, μ, h, hr⟩) ops.size _ s μ a _ (by rw [hrem]; simp) (by simp) (by rw [hrem]; exact h) (hr.drawn _)
        · split at h
          · exact wp_region_any hM (draw_pru (K := Q .normal) hF hG hB (fun a w ⟨s, μ, h, hr⟩ => ⟨s, μ, h, hr⟩) h (hr.drawn _))
          · split at h
            · rename_i hd
              rw [aops_idx (k := 0) (fun j => by simp)] at h
              rw [arun_of] at h
              refine wp_region_any hM ?_
              have hrem : remOf ops.size (Array.replicate ops.size false) = List.range' 0 ops.toList.length := by
                unfold remOf
                rw [List.filter_eq_self.2, List.range_eq_range', Array.length_toList]
                intro x hx
                have := List.mem_range.1 hx
                simp [this]
              refine draw_any (K := Q .normal) hF hB hd (fun a w ⟨s, μ, h, hr⟩ => ⟨s, μ, h, hr⟩) ops.size _ s μ a _ (by rw [hrem]; simp) (by simp) ?_ (by rw [hrem]; exact h) (hr.drawn _)
              intro j oj hj hl
              exfalso
              by_cases hjn : j < ops.size <;> simp [hjn] at hl
            · split at h
              · split at h
                · rename_i hd
                  obtain ⟨h, h2⟩ := h
                  rw [aops_idx (k := 0) (fun j => by simp)] at h
                  rw [arun_of] at h h2
                  refine wp_region_any hM ?_
                  have hrem : remOf ops.size (Array.replicate ops.size false) = List.range' 0 ops.toList.length := by
                    unfold remOf
                    rw [List.filter_eq_self.2, List.range_eq_range', Array.length_toList]
                    intro x hx
                    have := List.mem_range.1 hx
                    simp [this]
                  refine draw_two (K := Q .normal) hF hB hd (fun a w ⟨s, μ, h, hr⟩ => ⟨s, μ, h, hr⟩) ops.size _ s μ a _ (by rw [hrem]; simp) (by simp) ?_ (by rw [hrem]; exact h) (fun _ _ => by rw [hrem, Array.length_toList, ← List.range_eq_range']; exact h2) (hr.drawn _)
                  intro j oj hj hl
                  exfalso
                  by_cases hjn : j < ops.size <;> simp [hjn] at hl
                · exact wp_region_any hM (draw_pru (K := Q .normal) hF hG hB (fun a w ⟨s, μ, h, hr⟩ => ⟨s, μ, h, hr⟩) h (hr.drawn _))
              · exact wp_region_any hM (draw_pru (K := Q .normal) hF hG hB (fun a w ⟨s, μ, h, hr⟩ => ⟨s, μ, h, hr⟩) h (hr.drawn _))
  | .seq x y, Q, s, μ, a, w, h, hr => by
    simp only [awp] at h
    refine wp_seq ?_
    refine wp_mono (awp_sound hM hF hG hB h hr) fun e a' w' ⟨s', μ', h', hr'⟩ => ?_
    cases e with
    | normal => exact awp_sound hM hF hG hB h' hr'
    | _ => exact ⟨s', μ', h', hr'⟩
  | .cond c x y, Q, s, μ, a, w, h, hr => by
    simp only [awp] at h
    split at h
    · rename_i b hb
      have hc : a.eval c = .bool b := by
        have := ev_den (μ := μ) (d := []) hb
        rw [(hr.all μ (Agree.refl _ _)).2]; exact this
      cases b with
      | true => exact wp_cond hc (awp_sound hM hF hG hB h hr)
      | false => exact wp_cond hc (awp_sound hM hF hG hB h hr)
    · exact h.elim
  | .block id c, Q, s, μ, a, w, h, hr => by
    simp only [awp] at h
    refine wp_block ?_
    refine wp_mono (awp_sound hM hF hG hB h hr) fun e a' w' ⟨s', μ', h', hr'⟩ => ?_
    cases e with
    | exit j =>
      simp only [Exit.inBlock]
      by_cases hj : j = id
      · rw [if_pos hj]
        simp only [beqT.2 hj] at h'
        exact ⟨s', μ', h', hr'⟩
      · rw [if_neg hj]
        simp only [ff beqT hj] at h'
        exact ⟨s', μ', h', hr'⟩
    | _ => exact ⟨s', μ', h', hr'⟩
  | .loop c, Q, s, μ, a, w, h, hr => by
    simp only [awp] at h
    refine wp_loop_rounds N ?_
    have key : ∀ n {s μ a w}, lp (awp P F G N c) Q n s → RelA C μ s a w → Code.rounds P c (After2 C Q) n a w := by
      intro n
      induction n with
      | zero => intro s μ a w h _; exact h.elim
      | succ n ih =>
        intro s μ a w h hr
        simp only [lp] at h
        rw [rounds_succ]
        refine wp_mono (awp_sound hM hF hG hB h hr) fun e a' w' ⟨s', μ', h', hr'⟩ => ?_
        cases e with
        | normal => exact ih h' hr'
        | _ => exact ⟨s', μ', h', hr'⟩
    exact key N h hr
  | .exit id, Q, s, μ, a, w, h, hr => wp_exit ⟨s, μ, h, hr⟩
  | .ret, Q, s, μ, a, w, h, hr => wp_ret ⟨s, μ, h, hr⟩
  | .label _, Q, s, μ, a, w, h, hr => by
    simp only [awp] at h
    exact wp_label ⟨s, μ, h, hr⟩
  | .goto _, _, _, _, _, _, h, _ => by simp [awp] at h
  | .scope c, Q, s, μ, a, w, h, hr => by
    simp only [awp] at h
    refine wp_scope_straight (wp_mono (awp_sound hM hF hG hB h hr) fun e a' w' ⟨s', μ', h', hr'⟩ => ?_)
    cases e with
    | goto l => exact h'.elim
    | _ => exact ⟨s', μ', h', hr'⟩
  | .rangeFunc .., _, _, _, _, _, h, _ => by simp [awp] at h
  | .refuse _, _, _, _, _, _, h, _ => by simp [awp] at h

/-! ### A call -/

def resOne (P : Program) (s : St) : ResultVar → Option (Bool × V)
  | .tmp t => some (true, s.tmps.getD t V.un)
  | .cell a ty => match s.tmps.getD a V.un with
    | .ptr id off => loadV P s.mem ty (.ptr id off)
    | _ => none
def resMany (P : Program) (s : St) : List ResultVar → Option (Bool × List V)
  | [] => some (true, [])
  | r :: l => match resOne P s r, resMany P s l with
    | some (g, v), some (g', vs) => some (g && g', v :: vs)
    | _, _ => none
def pack : List V → V
  | [v] => v
  | l => .tup l

/-- What stands at a function's end: its results, and what they are asked for. -/
def ends (P : Program) (fn : Func) (K : V → List V → Prop) (e : Exit) (s : St) : Prop :=
  match e with
  | .normal | .ret => match resMany P s fn.results.toList with
    | some (g, vs) => gd g (K (pack vs) s.mem)
    | none => False
  | _ => False

def resS (tmps : Array Value) : ResultVar → Sem Value
  | .tmp t => pure (tmps.getD t undef)
  | .cell a t => do loadVar t (← asAddr (tmps.getD a undef))

theorem results_eq (fn : Func) (tmps : Array Value) : results fn tmps = (do let vs ← fn.results.mapM (resS tmps); pure (if h : vs.size = 1 then vs[0] else .tuple vs)) := by
  unfold results
  congr 2

theorem run_resOne {C : Ctx} {μ : Mu} {s : St} {a : Act} {w : World} (hr : RelA C μ s a w) {r : ResultVar} {v : V} (h : resOne P s r = some (true, v)) :
    (resS a.tmps r).run P w = .ok (v.den μ) w := by
  obtain ⟨h1, h2⟩ := hr.all μ (Agree.refl _ _)
  subst h2
  cases r with
  | tmp t =>
    simp only [resOne, Option.some.injEq, Prod.mk.injEq, true_and] at h
    subst h
    simp only [resS, Sem.run_pure]
    rw [show (act μ s.tmps).tmps.getD t undef = (s.tmps.getD t V.un).den μ from getD_dens μ s.tmps t]
  | cell x t =>
    simp only [resOne] at h
    split at h
    · rename_i id off hx
      have e : (act μ s.tmps).tmps.getD x undef = .pointer (some ⟨(μ id).1, (μ id).2 + off, none⟩) := by
        rw [show (act μ s.tmps).tmps.getD x undef = (s.tmps.getD x V.un).den μ from getD_dens μ s.tmps x, hx]; simp [V.den]
      simp only [resS, e, Sem.run_bind, asAddr, Sem.run_pure, Result.andThen_ok]
      exact run_loadVar h1 h
    · simp at h

theorem run_resMany {C : Ctx} {μ : Mu} {s : St} {a : Act} {w : World} (hr : RelA C μ s a w) : ∀ {l : List ResultVar} {vs : List V}, resMany P s l = some (true, vs) →
    (l.mapM (resS a.tmps)).run P w = .ok (vs.map (V.den μ)) w
  | [], vs, h => by simp [resMany] at h; subst h; simp
  | r :: l, vs, h => by
    simp only [resMany] at h
    split at h
    · rename_i g v g' ws h1 h2
      simp only [Option.some.injEq, Prod.mk.injEq, Bool.and_eq_true] at h
      obtain ⟨⟨rfl, rfl⟩, rfl⟩ := h
      rw [List.mapM_cons]
      simp only [Sem.run_bind, run_resOne hr h1, Result.andThen_ok, run_resMany hr h2, Sem.run_pure, List.map_cons]
    · simp at h

theorem run_results {C : Ctx} {μ : Mu} {s : St} {a : Act} {w : World} (hr : RelA C μ s a w) {fn : Func} {vs : List V} (h : resMany P s fn.results.toList = some (true, vs)) :
    (results fn a.tmps).run P w = .ok ((pack vs).den μ) w := by
  rw [results_eq]
  have := run_resMany hr h
  rw [Array.mapM_eq_mapM_toList, map_eq_pure_bind]
  simp only [Sem.run_bind, Sem.run_pure]
  rw [this]
  simp only [Result.andThen_ok]
  congr 1
  match vs with
  | [] => simp [pack, V.den, V.dens]
  | [v] => simp [pack]
  | v :: u :: l => simp [pack, V.den, dens_map]

theorem callFunc_body {f : FuncId} {fn : Func} {c : Code} (hf : P.funcs[f]? = some fn) (hb : fn.body = some c) (hn : (fn.name == "runtime.NumGoroutine") = false) (args : Array Value) (w : World) :
    (callFunc f args).run P w = .ok (.enter f args) w := by
  have hn' : fn.name ≠ "runtime.NumGoroutine" := by simpa using hn
  unfold callFunc
  simp [hf, hn', hb]

/-- The call, in the memory that its caller has made. -/
theorem calls_of_awp (hM : P.follows .mixedOrders = true) (hF : OrcOK P F) (hG : GOrcOK P G) {N : Nat} {f : FuncId} {fn : Func} {c : Code} (hf : P.funcs[f]? = some fn) (hb : fn.body = some c)
    {args : List V} {m : List V} {K : V → List V → Prop} {C : Ctx} {μ : Mu} {w : World} {vals : Array Value} (hB : Under C.B C.w0) (hm : RelM C μ m w) (hv : ∀ μ', Agree m.length μ μ' → vals = (args.map (V.den μ')).toArray)
    (h : awp P F G N c (ends P fn K) ⟨args ++ List.replicate (fn.ntmps - args.length) V.un, m⟩) :
    Calls P f vals w fun e w' => ∃ v m' μ1 val, K v m' ∧ e = .returned val ∧ RelM C μ1 m' w' ∧ ∀ μ', Agree m'.length μ1 μ' → val = v.den μ' := by
  refine calls_of_wp hf hb ?_
  have hr : RelA C μ ⟨args ++ List.replicate (fn.ntmps - args.length) V.un, m⟩ { tmps := vals ++ Array.replicate (fn.ntmps - vals.size) undef, defers := [] } w := by
    refine ⟨fun μ' hμ => ⟨hm.all μ' hμ, ?_⟩, hm.ext, hm.len⟩
    have := hv μ' hμ
    subst this
    simp only [act, List.map_append, List.map_replicate, V.un, V.den, V.dens, Act.mk.injEq, and_true]
    rw [← Array.toList_inj]
    simp [undef]
  refine wp_mono (awp_sound hM hF hG hB h hr) fun e a' w' ⟨s', μ', h', hr'⟩ => ?_
  have hend : (match resMany P s' fn.results.toList with | some (g, vs) => gd g (K (pack vs) s'.mem) | none => False) →
      a'.defers = [] ∧ ∃ v, (results fn a'.tmps).run P w' = .ok v w' ∧ ∃ v1 m' μ1 val, K v1 m' ∧ Ending.returned v = .returned val ∧ RelM C μ1 m' w' ∧ ∀ μ', Agree m'.length μ1 μ' → val = v1.den μ' := by
    intro h'
    split at h'
    · rename_i g vs hres
      obtain ⟨hg, h'⟩ := gd_true h'
      subst hg
      refine ⟨by rw [(hr'.all μ' (Agree.refl _ _)).2]; rfl, _, run_results hr' hres, _, _, μ', _, h', rfl, ⟨fun μ2 h2 => (hr'.all μ2 h2).1, hr'.ext, hr'.len⟩, fun μ2 h2 => ?_⟩
      have hr2 : RelA C μ2 s' a' w' := ⟨fun μ3 h3 => hr'.all μ3 (h2.trans h3), hr'.ext.trans (h2.mono hr'.len), hr'.len⟩
      have e1 := run_results hr' hres
      have e2 := run_results hr2 hres
      rw [e1] at e2
      simpa using e2
    · exact h'.elim
  cases e <;> simp only [ends] at h' <;> first | exact hend h' | exact h'.elim

/-- A callee whose arguments and result name no memory: a pure one. -/
theorem pure_of_awp (hM : P.follows .mixedOrders = true) (hF : OrcOK P F) (hG : GOrcOK P G) {N : Nat} {f : FuncId} {fn : Func} {c : Code} (hf : P.funcs[f]? = some fn) (hb : fn.body = some c) (hn : (fn.name == "runtime.NumGoroutine") = false)
    {args : List V} (ha : ∀ v ∈ args, ∀ μ μ', v.den μ' = v.den μ) {r : V} (hr : ∀ μ μ', r.den μ' = r.den μ)
    (h : awp P F G N c (ends P fn fun v _ => v.den (fun _ => (0, 0)) = r.den (fun _ => (0, 0)) ∧ ∀ μ μ', v.den μ' = v.den μ) ⟨args ++ List.replicate (fn.ntmps - args.length) V.un, []⟩) (μ : Mu) (w : World) :
    PureAt P f (args.map (V.den μ)).toArray (r.den μ) w := by
  refine .inr ⟨callFunc_body hf hb hn _ w, ?_⟩
  have hm : RelM ⟨lowB w.heap.size, w, 0, μ⟩ μ [] w := ⟨fun μ' _ => ⟨Keeps.refl _ _, fun id v hv => by simp at hv, fun i j hi => by simp at hi⟩, Agree.refl _ _, Nat.le_refl _⟩
  refine (calls_of_awp (C := ⟨lowB w.heap.size, w, 0, μ⟩) hM hF hG hf hb (under_low (Nat.le_refl _)) hm (fun μ' _ => ?_) h).mono fun e w' ⟨v, m', μ1, val, ⟨hK, hK'⟩, he, hrm, hval⟩ => ?_
  · congr 1
    exact List.map_congr_left fun v hv => (ha v hv μ' μ)
  · have e1 := hval μ1 (Agree.refl _ _)
    rw [hK' (fun _ => (0, 0)) μ1, hK, hr μ (fun _ => (0, 0))] at e1
    subst e1
    exact ⟨he, (hrm.all μ1 (Agree.refl _ _)).below.below⟩

end
end Go.Ev

namespace Go.Ev
/-- One callee more. -/
def ext (f0 : FuncId) (g : List V → Option (Bool × V)) (F : Orc) : Orc := fun f vs m => bif Nat.beq f f0 then g vs else F f vs m

theorem ext_ok {P : Program} {F : Orc} (hF : OrcOK P F) {f0 : FuncId} {g : List V → Option (Bool × V)} (h : ∀ vs v, g vs = some (true, v) → (∀ μ μ', v.den μ' = v.den μ) ∧ ∀ μ w, PureAt P f0 (vs.map (V.den μ)).toArray (v.den μ) w) : OrcOK P (ext f0 g F) := by
  refine ⟨fun f vs m v hv => ?_, fun f vs m z r hv => ?_⟩
  · unfold ext at hv
    by_cases hf : f = f0
    · rw [beqT.2 hf] at hv
      simp only [cond_true] at hv
      obtain ⟨h1, h2⟩ := h vs v hv
      subst hf
      exact ⟨fun μ μ' _ => h1 μ μ', fun μ B w0 w _ _ => h2 μ w⟩
    · rw [ff beqT hf] at hv
      exact hF.1 f vs m v hv
  · unfold ext at hv ⊢
    by_cases hf : f = f0
    · rw [beqT.2 hf] at hv ⊢
      exact hv
    · rw [ff beqT hf] at hv ⊢
      exact hF.2 f vs m z r hv

def orc0 : Orc := fun _ _ _ => none
theorem orc0_ok (P : Program) : OrcOK P orc0 := ⟨fun _ _ _ _ h => by simp [orc0] at h, fun _ _ _ _ _ h => by simp [orc0] at h⟩

theorem same_int (k : IntKind) (n : Int) : ∀ μ μ', (V.int k n).den μ' = (V.int k n).den μ := fun _ _ => by simp [V.den]
theorem same_bool (b : Bool) : ∀ μ μ', (V.bool b).den μ' = (V.bool b).den μ := fun _ _ => by simp [V.den]
theorem same_ints (k : IntKind) (n : Nat) (f : Nat → Int) : ∀ μ μ', (V.ints k n f).den μ' = (V.ints k n f).den μ := fun _ _ => by simp [V.den]

def z0 : Mu := fun _ => (0, 0)
def body (fn : Func) : Code := fn.body.getD .skip
end Go.Ev

namespace Go.Ev
mutual
/-- No memory is named. -/
def V.flat : V → Bool
  | .int _ _ | .bool _ | .str _ | .nil | .snil | .ints _ _ _ | .bools _ _ | .fn _ | .wild _ | .wsl _ _ _ | .val _ | .raw _ _ => true
  | .ptr _ _ | .sl _ _ _ _ => false
  | .agg l => V.flats l
  | .tup l => V.flats l
def V.flats : List V → Bool
  | [] => true
  | v :: l => v.flat && V.flats l
end

mutual
theorem flat_den : ∀ {v : V}, v.flat = true → ∀ μ μ', v.den μ' = v.den μ
  | .int _ _, _, _, _ => by simp [V.den]
  | .bool _, _, _, _ => by simp [V.den]
  | .str _, _, _, _ => by simp [V.den]
  | .nil, _, _, _ => by simp [V.den]
  | .snil, _, _, _ => by simp [V.den]
  | .ints _ _ _, _, _, _ => by simp [V.den]
  | .bools _ _, _, _, _ => by simp [V.den]
  | .fn _, _, _, _ => by simp [V.den]
  | .wild _, _, _, _ => by simp [V.den]
  | .wsl _ _ _, _, _, _ => by simp [V.den]
  | .val _, _, _, _ => by simp [V.den]
  | .raw _ _, _, _, _ => by simp [V.den]
  | .ptr _ _, h, _, _ => by simp [V.flat] at h
  | .sl _ _ _ _, h, _, _ => by simp [V.flat] at h
  | .agg l, h, μ, μ' => by
    simp only [V.flat] at h
    simp only [V.den, flats_den h μ μ']
  | .tup l, h, μ, μ' => by
    simp only [V.flat] at h
    simp only [V.den, flats_den h μ μ']
theorem flats_den : ∀ {l : List V}, V.flats l = true → ∀ μ μ', V.dens μ' l = V.dens μ l
  | [], _, _, _ => rfl
  | v :: l, h, μ, μ' => by
    simp only [V.flats, Bool.and_eq_true] at h
    simp only [V.dens, flat_den h.1 μ μ', flats_den h.2 μ μ']
end

/-- The answer is r, as a value of the program. -/
def okV (r v : V) : Prop := match v.flat with
  | true => v.den z0 = r.den z0
  | false => False

def mB (b : Bool) (A B : Prop) : Prop := match b with | true => A | false => B
theorem mBt {A B : Prop} : ∀ {b : Bool}, (b = true → A) → (b = false → B) → mB b A B
  | true, ha, _ => ha rfl
  | false, _, hb => hb rfl
def gB (b : Bool) (A : Prop) : Prop := match b with | true => A | false => False
theorem gm {b : Bool} {A : Prop} (h : b = true) (a : A) : gB b A := by subst h; exact a

theorem okV_refl {r : V} (h : r.flat = true) : okV r r := by unfold okV; rw [h]

def L (l : List Int) : Nat → Int := fun j => l.getD j 0
def l10 (a0 a1 a2 a3 a4 a5 a6 a7 a8 a9 : Int) : Nat → Int := L [a0, a1, a2, a3, a4, a5, a6, a7, a8, a9]

open RowKit (Below)
theorem pure_ok {P : Program} {F : Orc} {G : GOrc} (hM : P.follows .mixedOrders = true) (hF : OrcOK P F) (hG : GOrcOK P G) {N : Nat} {f : FuncId} {fn : Func} (hf : P.funcs[f]? = some fn) (hb : fn.body.isSome = true) (hn : (fn.name == "runtime.NumGoroutine") = false)
    {args : List V} (ha : V.flats args = true) {r : V} (hr : r.flat = true) {n : Nat}
    (h : awp P F G N (body fn) (ends P fn fun v _ => okV r v) ⟨args ++ List.replicate n V.un, []⟩) (hnt : n = fn.ntmps - args.length) :
    (∀ μ μ', r.den μ' = r.den μ) ∧ ∀ μ w, PureAt P f (args.map (V.den μ)).toArray (r.den μ) w := by
  refine ⟨flat_den hr, fun μ w => ?_⟩
  obtain ⟨c, hc⟩ := Option.isSome_iff_exists.1 hb
  have hbody : body fn = c := by simp [body, hc]
  rw [hbody] at h
  subst hnt
  have hflat : ∀ l : List V, V.flats l = true → ∀ v ∈ l, v.flat = true := by
    intro l
    induction l with
    | nil => intro _ v hv; simp at hv
    | cons u l ih =>
      intro h v hv
      simp only [V.flats, Bool.and_eq_true] at h
      rcases List.mem_cons.1 hv with rfl | hv
      · exact h.1
      · exact ih h.2 v hv
  refine .inr ⟨callFunc_body hf hc hn _ w, ?_⟩
  have hm : RelM ⟨lowB w.heap.size, w, 0, μ⟩ μ [] w := ⟨fun μ' _ => ⟨Keeps.refl _ _, fun id v hv => by simp at hv, fun i j hi => by simp at hi⟩, Agree.refl _ _, Nat.le_refl _⟩
  refine (calls_of_awp (C := ⟨lowB w.heap.size, w, 0, μ⟩) hM hF hG hf hc (under_low (Nat.le_refl _)) hm (fun μ' _ => ?_) h).mono fun e w' ⟨v, m', μ1, val, hK, he, hrm, hval⟩ => ?_
  · congr 1
    exact List.map_congr_left fun v hv => flat_den (hflat _ ha v hv) μ' μ
  · have e1 := hval μ1 (Agree.refl _ _)
    unfold okV at hK
    split at hK
    · rename_i hfl
      rw [flat_den hfl z0 μ1, hK, flat_den hr μ z0] at e1
      subst e1
      exact ⟨he, (hrm.all μ1 (Agree.refl _ _)).below.below⟩
    · exact hK.elim
end Go.Ev

namespace Go.Ev
open RowKit (Below)
/-- A callee that is gone through in place, in the memory of its caller. -/
def inl (P : Program) (F : Orc) (N : Nat) (f : FuncId) (fn : Func) (G : GOrc) : GOrc := fun f' vs m K => match Nat.beq f' f with
  | true => awp P F G N (body fn) (ends P fn K) ⟨vs ++ List.replicate (fn.ntmps - vs.length) V.un, m⟩
  | false => G f' vs m K

theorem inl_ok {P : Program} {F : Orc} {G : GOrc} (hM : P.follows .mixedOrders = true) (hF : OrcOK P F) (hG : GOrcOK P G) {N : Nat} {f : FuncId} {fn : Func} (hf : P.funcs[f]? = some fn) (hb : fn.body.isSome = true) (hn : (fn.name == "runtime.NumGoroutine") = false) :
    GOrcOK P (inl P F N f fn G) := by
  intro f' vs m K h C μ w args hB hm hargs
  obtain ⟨c, hc⟩ := Option.isSome_iff_exists.1 hb
  have hbody : body fn = c := by simp [body, hc]
  unfold inl at h
  split at h
  · rename_i hff
    have := beqT.1 hff; subst this
    rw [hbody] at h
    refine ⟨callFunc_body hf hc hn _ w, ?_⟩
    have hm' : RelM ⟨C.B, C.w0, m.length, μ⟩ μ m w := ⟨hm.all, Agree.refl _ _, Nat.le_refl _⟩
    refine (calls_of_awp (C := ⟨C.B, C.w0, m.length, μ⟩) hM hF hG hf hc hB hm' hargs h).mono fun e w' ⟨v, m', μ1, val, hK, he, hrm, hval⟩ => ?_
    exact ⟨v, m', μ1, val, hK, he, hrm.len, hrm.ext, ⟨hrm.all, hm.ext.trans (hrm.ext.mono hm.len), Nat.le_trans hm.len hrm.len⟩, hval⟩
  · exact hG f' vs m K h C μ w args hB hm hargs
end Go.Ev
attribute [irreducible] Go.Ev.awp Go.Ev.mB Go.Ev.gB
