/-
  The evaluator where a loop's head may forget blocks that nothing names any more. Conditions: none.
-/
import Derived.Test.YtbnclikjbnfodaaFvM
namespace Go.Ev
open RowKit (Below)

/-- The same state by fewer blocks: 'ids' are those that are kept. -/
def Gc (n0 : Nat) (μ : Mu) (s s2 : St) : Prop :=
  ∃ ids : List Nat, ids.Nodup ∧ (∀ i ∈ ids, i < s.mem.length) ∧ s2.mem.length = ids.length ∧ (n0 ≤ ids.length ∧ ∀ i, i < n0 → ids.getD i 0 = i) ∧
    ∀ ν : Mu, (∀ j, j < ids.length → ν j = μ (ids.getD j 0)) →
      s2.tmps.map (V.den ν) = s.tmps.map (V.den μ) ∧
      ∀ j v2, s2.mem[j]? = some v2 → ∃ v, s.mem[ids.getD j 0]? = some v ∧ (roOf v2).isSome = (roOf v).isSome ∧ tagOf v2 = tagOf v ∧ (strip v2).den ν = (strip v).den μ

theorem held_same {μ ν : Mu} {B : Blk} {w : World} {i j : Nat} {v v2 : V} (h : Held μ B w i v) (hn : ν j = μ i) (hs : (roOf v2).isSome = (roOf v).isSome) (ht : tagOf v2 = tagOf v) (hd : (strip v2).den ν = (strip v).den μ) : Held ν B w j v2 := by
  unfold Held at *
  unfold strip at hd
  rw [hn, ht]
  cases h1 : roOf v with
  | none =>
    cases h2 : roOf v2 with
    | none =>
      rw [h1] at h
      rw [h1, h2] at hd
      dsimp only at h hd ⊢
      rw [hd]; exact h
    | some u2 => rw [h1, h2] at hs; cases hs
  | some u =>
    cases h2 : roOf v2 with
    | none => rw [h1, h2] at hs; cases hs
    | some u2 =>
      rw [h1] at h
      rw [h1, h2] at hd
      dsimp only at h hd ⊢
      rw [hd]; exact h

theorem gc_rel {C : Ctx} {μ : Mu} {s s2 : St} {a : Act} {w : World} (hr : RelA C μ s a w) (hg : Gc C.n0 μ s s2) : ∃ μ2, RelA C μ2 s2 a w := by
  obtain ⟨ids, hnd, hlt, hlen, ⟨hn0, hid0⟩, hk⟩ := hg
  obtain ⟨h1, h2⟩ := hr.all μ (Agree.refl _ _)
  refine ⟨fun j => μ (ids.getD j 0), fun μ' hμ => ?_, fun i hi => by show μ (ids.getD i 0) = _; rw [hid0 i hi]; exact hr.ext i hi, by omega⟩
  rw [hlen] at hμ
  have hν : ∀ j, j < ids.length → μ' j = μ (ids.getD j 0) := fun j hj => hμ j hj
  obtain ⟨k1, k2⟩ := hk μ' hν
  refine ⟨⟨h1.below, fun j v2 hv => ?_, fun i j hi hj hb e => ?_⟩, ?_⟩
  · obtain ⟨v, hv1, hs, ht, hd⟩ := k2 j v2 hv
    have hj : j < ids.length := by rw [← hlen]; exact (List.getElem?_eq_some_iff.1 hv).1
    exact held_same (h1.hold _ v hv1) (hν j hj) hs ht hd
  · rw [hlen] at hi hj
    rw [hν i hi] at hb
    rw [hν i hi, hν j hj] at e
    have gi : ids.getD i 0 = ids[i] := by simp [List.getD_eq_getElem?_getD, hi]
    have gj : ids.getD j 0 = ids[j] := by simp [List.getD_eq_getElem?_getD, hj]
    rw [gi] at hb e
    rw [gj] at e
    have := h1.inj _ _ (hlt _ (List.getElem_mem hi)) (hlt _ (List.getElem_mem hj)) hb e
    exact (List.getElem_inj hnd).1 this
  · rw [h2]
    simp only [act, Act.mk.injEq, and_true]
    rw [k1]

def lpW (n0 : Nat) (body : (Exit → St → Prop) → St → Prop) (Q : Exit → St → Prop) : Nat → St → Prop
  | 0, _ => False
  | n + 1, s => body (fun e s' => match e with | .normal => ∀ μ : Mu, ∃ s2, Gc n0 μ s' s2 ∧ lpW n0 body Q n s2 | e => Q e s') s

/-- The same, but that a loop's head may forget blocks. N: how many rounds a loop may take. -/
def awq (P : Program) (F : Orc) (G : GOrc) (n0 N : Nat) : Code → (Exit → St → Prop) → St → Prop
  | .skip, Q, s => Q .normal s
  | .region _ ops draw, Q, s => match draw with
    | false => aops P F G ops ops.toList (Q .normal) s
    | true => match drawG ops with
      | true => aops P F G ops ops.toList (Q .normal) s
      | false => match wantsG P ops with
        | true => anyG P F G ops ops.size (List.range ops.size) (Q .normal) s
        | false => match wantsQ P F ops with
          | true => pru P F G ops (masks ops.toList []) ops.size (List.range ops.size) (Q .normal) s
          | false => match drawOK ops with
            | true => aops P F noG ops ops.toList (Q .normal) s
            | false => match pairAt ops with
              | some a => match drawOK2 ops a with
                | true => aops P F noG ops ops.toList (Q .normal) s ∧ aops' P F noG ops ((List.range ops.size).map (sw a)) (Q .normal) s
                | false => pru P F G ops (masks ops.toList []) ops.size (List.range ops.size) (Q .normal) s
              | none => pru P F G ops (masks ops.toList []) ops.size (List.range ops.size) (Q .normal) s
  | .seq a b, Q, s => awq P F G n0 N a (fun e s' => match e with | .normal => awq P F G n0 N b Q s' | e => Q e s') s
  | .cond c x y, Q, s => match ev s.tmps c with
    | some (.bool b) => match b with
      | true => awq P F G n0 N x Q s
      | false => awq P F G n0 N y Q s
    | _ => False
  | .block id c, Q, s => awq P F G n0 N c (fun e s' => match e with
    | .exit j => (match Nat.beq j id with | true => Q .normal s' | false => Q (.exit j) s')
    | e => Q e s') s
  | .loop c, Q, s => lpW n0 (awp P F G N c) Q N s
  | .exit id, Q, s => Q (.exit id) s
  | .ret, Q, s => Q .ret s
  | .scope c, Q, s => awq P F G n0 N c (fun e s' => match e with | .goto _ => False | e => Q e s') s
  | .label _, Q, s => Q .normal s
  | _, _, _ => False

section
variable {P : Program} {F : Orc} {G : GOrc}

theorem awq_sound (hM : P.follows .mixedOrders = true) (hF : OrcOK P F) (hG : GOrcOK P G) {C : Ctx} (hB : Under C.B C.w0) {n0 : Nat} (hC : C.n0 = n0) {N : Nat} :
    ∀ {c : Code} {Q : Exit → St → Prop} {s : St} {μ : Mu} {a : Act} {w : World}, awq P F G n0 N c Q s → RelA C μ s a w → c.wp P (After2 C Q) a w
  | .skip, Q, s, μ, a, w, h, hr => wp_skip ⟨s, μ, h, hr⟩
  | .region id ops draw, Q, s, μ, a, w, h, hr => by
    cases draw with
    | false =>
      simp only [awq] at h
      refine wp_region ?_
      rw [aops_idx (k := 0) (fun j => by simp)] at h
      rw [List.range_eq_range']
      exact aops'_sound hF hG hB (fun a w ⟨s, μ, h, hr⟩ => ⟨s, μ, h, hr⟩) (by simpa using h) hr
    | true =>
      simp only [awq] at h
      split at h
      · rename_i hd
        rw [aops_idx (k := 0) (fun j => by simp)] at h
        refine wp_region_any hM ?_
        have hrem : remOf ops.size (Array.replicate ops.size false) = List.range' 0 ops.toList.length := by
          unfold remOf
          rw [List.filter_eq_self.2, List.range_eq_range', Array.length_toList]
          intro x hx
          have := List.mem_range.1 hx
          simp [this]
        refine draw_anyG (K := Q .normal) hF hG hB hd (fun a w ⟨s, μ, h, hr⟩ => ⟨s, μ, h, hr⟩) ops.size _ s μ a _ (by rw [hrem]; simp) (by simp) ?_ (by rw [hrem]; exact h) (hr.drawn _)
        intro j oj hj hl
        exfalso
        by_cases hjn : j < ops.size <;> simp [hjn] at hl
      · split at h
        · refine wp_region_any hM ?_
          have hrem : remOf ops.size (Array.replicate ops.size false) = List.range ops.size := by
            unfold remOf
            rw [List.filter_eq_self.2]
            intro x hx
            have := List.mem_range.1 hx
            simp [this]
          exact draw_all (K := Q .normal) hF hG hB (fun a w ⟨s, μ, h, hr⟩ => ⟨s, μ, h, hr⟩) ops.size _ s μ a _ (by rw [hrem]; simp) (by simp) (by rw [hrem]; exact h) (hr.drawn _)
        · split at h
          · exact wp_region_any hM (draw_pru (K := Q .normal) hF hG hB (fun a w ⟨s, μ, h, hr⟩ => ⟨s, μ, h, hr⟩) h (hr.drawn _))
          · split at h
            · rename_i hd
              rw [aops_idx (k := 0) (fun j => by simp)] at h
              rw [arun_of] at h
              refine wp_region_any hM ?_
              have hrem : remOf ops.size (Array.replicate ops.size false) = List.range' 0 ops.toList.length := by
                unfold remOf
                rw [List.filter_eq_self.2, List.range_eq_range', Array.length_toList]
                intro x hx
                have := List.mem_range.1 hx
                simp [this]
              refine draw_any (K := Q .normal) hF hB hd (fun a w ⟨s, μ, h, hr⟩ => ⟨s, μ, h, hr⟩) ops.size _ s μ a _ (by rw [hrem]; simp) (by simp) ?_ (by rw [hrem]; exact h) (hr.drawn _)
              intro j oj hj hl
              exfalso
              by_cases hjn : j < ops.size <;> simp [hjn] at hl
            · split at h
              · split at h
                · rename_i hd
                  obtain ⟨h, h2⟩ := h
                  rw [aops_idx (k := 0) (fun j => by simp)] at h
                  rw [arun_of] at h h2
                  refine wp_region_any hM ?_
                  have hrem : remOf ops.size (Array.replicate ops.size false) = List.range' 0 ops.toList.length := by
                    unfold remOf
                    rw [List.filter_eq_self.2, List.range_eq_range', Array.length_toList]
                    intro x hx
                    have := List.mem_range.1 hx
                    simp [this]
                  refine draw_two (K := Q .normal) hF hB hd (fun a w ⟨s, μ, h, hr⟩ => ⟨s, μ, h, hr⟩) ops.size _ s μ a _ (by rw [hrem]; simp) (by simp) ?_ (by rw [hrem]; exact h) (fun _ _ => by rw [hrem, Array.length_toList, ← List.range_eq_range']; exact h2) (hr.drawn _)
                  intro j oj hj hl
                  exfalso
                  by_cases hjn : j < ops.size <;> simp [hjn] at hl
                · exact wp_region_any hM (draw_pru (K := Q .normal) hF hG hB (fun a w ⟨s, μ, h, hr⟩ => ⟨s, μ, h, hr⟩) h (hr.drawn _))
              · exact wp_region_any hM (draw_pru (K := Q .normal) hF hG hB (fun a w ⟨s, μ, h, hr⟩ => ⟨s, μ, h, hr⟩) h (hr.drawn _))
  | .seq x y, Q, s, μ, a, w, h, hr => by
    simp only [awq] at h
    refine wp_seq ?_
    refine wp_mono (awq_sound hM hF hG hB hC h hr) fun e a' w' ⟨s', μ', h', hr'⟩ => ?_
    cases e with
    | normal => exact awq_sound hM hF hG hB hC h' hr'
    | _ => exact ⟨s', μ', h', hr'⟩
  | .cond c x y, Q, s, μ, a, w, h, hr => by
    simp only [awq] at h
    split at h
    · rename_i b hb
      have hc : a.eval c = .bool b := by
        have := ev_den (μ := μ) (d := []) hb
        rw [(hr.all μ (Agree.refl _ _)).2]; exact this
      cases b with
      | true => exact wp_cond hc (awq_sound hM hF hG hB hC h hr)
      | false => exact wp_cond hc (awq_sound hM hF hG hB hC h hr)
    · exact h.elim
  | .block id c, Q, s, μ, a, w, h, hr => by
    simp only [awq] at h
    refine wp_block ?_
    refine wp_mono (awq_sound hM hF hG hB hC h hr) fun e a' w' ⟨s', μ', h', hr'⟩ => ?_
    cases e with
    | exit j =>
      simp only [Exit.inBlock]
      by_cases hj : j = id
      · rw [if_pos hj]
        simp only [beqT.2 hj] at h'
        exact ⟨s', μ', h', hr'⟩
      · rw [if_neg hj]
        simp only [ff beqT hj] at h'
        exact ⟨s', μ', h', hr'⟩
    | _ => exact ⟨s', μ', h', hr'⟩
  | .loop c, Q, s, μ, a, w, h, hr => by
    simp only [awq] at h
    refine wp_loop_rounds N ?_
    have key : ∀ n {s μ a w}, lpW n0 (awp P F G N c) Q n s → RelA C μ s a w → Code.rounds P c (After2 C Q) n a w := by
      intro n
      induction n with
      | zero => intro s μ a w h _; exact h.elim
      | succ n ih =>
        intro s μ a w h hr
        simp only [lpW] at h
        rw [rounds_succ]
        refine wp_mono (awp_sound hM hF hG hB h hr) fun e a' w' ⟨s', μ', h', hr'⟩ => ?_
        cases e with
        | normal =>
          obtain ⟨s2, hg, h2⟩ := h' μ'
          obtain ⟨μ2, hr2⟩ := gc_rel hr' (by rw [hC]; exact hg)
          exact ih h2 hr2
        | _ => exact ⟨s', μ', h', hr'⟩
    exact key N h hr
  | .exit id, Q, s, μ, a, w, h, hr => wp_exit ⟨s, μ, h, hr⟩
  | .ret, Q, s, μ, a, w, h, hr => wp_ret ⟨s, μ, h, hr⟩
  | .label _, Q, s, μ, a, w, h, hr => by
    simp only [awq] at h
    exact wp_label ⟨s, μ, h, hr⟩
  | .goto _, _, _, _, _, _, h, _ => by simp [awq] at h
  | .scope c, Q, s, μ, a, w, h, hr => by
    simp only [awq] at h
    refine wp_scope_straight (wp_mono (awq_sound hM hF hG hB hC h hr) fun e a' w' ⟨s', μ', h', hr'⟩ => ?_)
    cases e with
    | goto l => exact h'.elim
    | _ => exact ⟨s', μ', h', hr'⟩
  | .rangeFunc .., _, _, _, _, _, h, _ => by simp [awq] at h
  | .refuse _, _, _, _, _, _, h, _ => by simp [awq] at h

/-- The call, where loops' heads forget. -/
theorem calls_of_awq (hM : P.follows .mixedOrders = true) (hF : OrcOK P F) (hG : GOrcOK P G) {N : Nat} {f : FuncId} {fn : Func} {c : Code} (hf : P.funcs[f]? = some fn) (hb : fn.body = some c)
    {args : List V} {m : List V} {K : V → List V → Prop} {C : Ctx} {μ : Mu} {w : World} {vals : Array Value} (hB : Under C.B C.w0) {n0 : Nat} (hC : C.n0 = n0) (hm : RelM C μ m w) (hv : ∀ μ', Agree m.length μ μ' → vals = (args.map (V.den μ')).toArray)
    (h : awq P F G n0 N c (ends P fn K) ⟨args ++ List.replicate (fn.ntmps - args.length) V.un, m⟩) :
    Calls P f vals w fun e w' => ∃ v m' μ1 val, K v m' ∧ e = .returned val ∧ RelM C μ1 m' w' ∧ ∀ μ', Agree m'.length μ1 μ' → val = v.den μ' := by
  refine calls_of_wp hf hb ?_
  have hr : RelA C μ ⟨args ++ List.replicate (fn.ntmps - args.length) V.un, m⟩ { tmps := vals ++ Array.replicate (fn.ntmps - vals.size) undef, defers := [] } w := by
    refine ⟨fun μ' hμ => ⟨hm.all μ' hμ, ?_⟩, hm.ext, hm.len⟩
    have := hv μ' hμ
    subst this
    simp only [act, List.map_append, List.map_replicate, V.un, V.den, V.dens, Act.mk.injEq, and_true]
    rw [← Array.toList_inj]
    simp [undef]
  refine wp_mono (awq_sound hM hF hG hB hC h hr) fun e a' w' ⟨s', μ', h', hr'⟩ => ?_
  have hend : (match resMany P s' fn.results.toList with | some (g, vs) => gd g (K (pack vs) s'.mem) | none => False) →
      a'.defers = [] ∧ ∃ v, (results fn a'.tmps).run P w' = .ok v w' ∧ ∃ v1 m' μ1 val, K v1 m' ∧ Ending.returned v = .returned val ∧ RelM C μ1 m' w' ∧ ∀ μ', Agree m'.length μ1 μ' → val = v1.den μ' := by
    intro h'
    split at h'
    · rename_i g vs hres
      obtain ⟨hg, h'⟩ := gd_true h'
      subst hg
      refine ⟨by rw [(hr'.all μ' (Agree.refl _ _)).2]; rfl, _, run_results hr' hres, _, _, μ', _, h', rfl, ⟨fun μ2 h2 => (hr'.all μ2 h2).1, hr'.ext, hr'.len⟩, fun μ2 h2 => ?_⟩
      have hr2 : RelA C μ2 s' a' w' := ⟨fun μ3 h3 => hr'.all μ3 (h2.trans h3), hr'.ext.trans (h2.mono hr'.len), hr'.len⟩
      have e1 := run_results hr' hres
      have e2 := run_results hr2 hres
      rw [e1] at e2
      simpa using e2
    · exact h'.elim
  cases e <;> simp only [ends] at h' <;> first | exact hend h' | exact h'.elim


/-- A callee that reads what it is handed, and answers a plain value. -/
theorem reads_at {f : FuncId} (hn : ∀ args w, (callFunc f args).run P w = .ok (.enter f args) w) {gs : List Nat} {vs m as mem0 : List V} (hv : views gs vs m = some (as, mem0)) {r : V} (hr : r.flat = true)
    (h : ∀ (ν : Mu) (C : Ctx) (w : World), Under C.B C.w0 → RelM C ν mem0 w → C.n0 = mem0.length → ∀ vals, (∀ ν', Agree mem0.length ν ν' → vals = (as.map (V.den ν')).toArray) →
      Calls P f vals w fun e w' => ∃ v m' μ1 val, okV r v ∧ e = .returned val ∧ RelM C μ1 m' w' ∧ ∀ μ', Agree m'.length μ1 μ' → val = v.den μ') :
    ∀ μ B w0 w, Under B w0 → Rel μ B w0 m w → PureAt P f (vs.map (V.den μ)).toArray (r.den μ) w := by
  intro μ B w0 w _ hrel
  obtain ⟨ν, hm, _, _, _, _, hargs⟩ := view_mem hrel hv
  refine .inr ⟨hn _ w, ?_⟩
  refine (h ν ⟨offB μ [] w, w, mem0.length, ν⟩ w (off_under μ [] w) hm rfl _ hargs).mono fun e w' ⟨v, m', μ1, val, hK, he, hrm, hval⟩ => ?_
  have e1 := hval μ1 (Agree.refl _ _)
  unfold okV at hK
  split at hK
  · rename_i hfl
    rw [flat_den hfl z0 μ1, hK, flat_den hr μ z0] at e1
    subst e1
    exact ⟨he, ((hrm.all μ1 (Agree.refl _ _)).below.mono (A := offB μ [] w) (B := lowB w.heap.size) fun k hk => ⟨hk, fun id hid => by cases hid⟩).below⟩
  · exact hK.elim
theorem reads_ok (hM : P.follows .mixedOrders = true) (hF : OrcOK P F) (hG : GOrcOK P G) {N : Nat} {f : FuncId} {fn : Func} (hf : P.funcs[f]? = some fn) (hb : fn.body.isSome = true) (hn : (fn.name == "runtime.NumGoroutine") = false)
    {gs : List Nat} {vs m as ro : List V} (hv : views gs vs m = some (as, ro)) {r : V} (hr : r.flat = true) {n : Nat}
    (h : awp P F G N (body fn) (ends P fn fun v _ => okV r v) ⟨as ++ List.replicate n V.un, ro⟩) (hnt : n = fn.ntmps - as.length) :
    ∀ μ B w0 w, Under B w0 → Rel μ B w0 m w → PureAt P f (vs.map (V.den μ)).toArray (r.den μ) w := by
  obtain ⟨c, hc⟩ := Option.isSome_iff_exists.1 hb
  have hbody : body fn = c := by simp [body, hc]
  rw [hbody] at h
  subst hnt
  exact reads_at (fun args w => callFunc_body hf hc hn args w) hv hr fun ν C w hB hm _ vals hargs => calls_of_awp hM hF hG hf hc hB hm hargs h
theorem reads_awq (hM : P.follows .mixedOrders = true) (hF : OrcOK P F) (hG : GOrcOK P G) {N : Nat} {f : FuncId} {fn : Func} (hf : P.funcs[f]? = some fn) (hb : fn.body.isSome = true) (hn : (fn.name == "runtime.NumGoroutine") = false)
    {gs : List Nat} {vs m as ro : List V} (hv : views gs vs m = some (as, ro)) {r : V} (hr : r.flat = true) {n n0 : Nat}
    (h : awq P F G n0 N (body fn) (ends P fn fun v _ => okV r v) ⟨as ++ List.replicate n V.un, ro⟩) (hnt : n = fn.ntmps - as.length) (h0 : n0 = ro.length) :
    ∀ μ B w0 w, Under B w0 → Rel μ B w0 m w → PureAt P f (vs.map (V.den μ)).toArray (r.den μ) w := by
  obtain ⟨c, hc⟩ := Option.isSome_iff_exists.1 hb
  have hbody : body fn = c := by simp [body, hc]
  rw [hbody] at h
  subst hnt h0
  exact reads_at (fun args w => callFunc_body hf hc hn args w) hv hr fun ν C w hB hm hC vals hargs => calls_of_awq hM hF hG hf hc hB hC hm hargs h

/-- One callee more that may be handed slices. -/
def extM (f0 : FuncId) (g : List V → List V → Option (Bool × V)) (F : Orc) : Orc := fun f vs m => bif Nat.beq f f0 then g vs m else F f vs m
theorem extM_ok (hF : OrcOK P F) {f0 : FuncId} {g : List V → List V → Option (Bool × V)}
    (h : ∀ vs m v, g vs m = some (true, v) → v.flat = true ∧ ∀ μ B w0 w, Under B w0 → Rel μ B w0 m w → PureAt P f0 (vs.map (V.den μ)).toArray (v.den μ) w)
    (hg : ∀ vs m z r, g vs m = some r → g vs (m ++ [z]) = some r) : OrcOK P (extM f0 g F) := by
  refine ⟨fun f vs m v hv => ?_, fun f vs m z r hv => ?_⟩
  · unfold extM at hv
    by_cases hf : f = f0
    · rw [beqT.2 hf] at hv
      simp only [cond_true] at hv
      obtain ⟨h1, h2⟩ := h vs m v hv
      subst hf
      exact ⟨fun μ μ' _ => flat_den h1 μ μ', h2⟩
    · rw [ff beqT hf] at hv
      exact hF.1 f vs m v hv
  · unfold extM at hv ⊢
    by_cases hf : f = f0
    · rw [beqT.2 hf] at hv ⊢
      exact hg _ _ _ _ hv
    · rw [ff beqT hf] at hv ⊢
      exact hF.2 f vs m z r hv

/-- What is to be shown of a callee that touches memory. -/
def CallsG (P : Program) (f : FuncId) (vs m : List V) (K : V → List V → Prop) : Prop :=
  ∀ (C : Ctx) (μ : Mu) (w : World), Under C.B C.w0 → RelM C μ m w →
    (callFunc f (vs.map (V.den μ)).toArray).run P w = .ok (.enter f (vs.map (V.den μ)).toArray) w ∧
    Calls P f (vs.map (V.den μ)).toArray w fun e w' => ∃ v m' μ1 val, K v m' ∧ e = .returned val ∧ m.length ≤ m'.length ∧ Agree m.length μ μ1 ∧ RelM C μ1 m' w' ∧ ∀ μ', Agree m'.length μ1 μ' → val = v.den μ'
/-- One such callee more. -/
def extG (f0 : FuncId) (h : List V → List V → (V → List V → Prop) → Prop) (G : GOrc) : GOrc := fun f vs m K => match Nat.beq f f0 with
  | true => h vs m K
  | false => G f vs m K
theorem extG_ok (hG : GOrcOK P G) {f0 : FuncId} {g : List V → List V → (V → List V → Prop) → Prop} (h : ∀ vs m K, g vs m K → CallsG P f0 vs m K) : GOrcOK P (extG f0 g G) := by
  intro f vs m K hk C μ w args hB hm hargs
  unfold extG at hk
  split at hk
  · rename_i hf
    have := beqT.1 hf; subst this
    have ha := hargs μ (Agree.refl _ _)
    subst ha
    exact h vs m K hk C μ w hB hm
  · exact hG f vs m K hk C μ w args hB hm hargs
/-- A callee whose body the evaluator goes through, in a small memory of its own. -/
theorem frames_awp (hM : P.follows .mixedOrders = true) (hF : OrcOK P F) (hG : GOrcOK P G) {N : Nat} {f : FuncId} {fn : Func} (hf : P.funcs[f]? = some fn) (hb : fn.body.isSome = true) (hn : (fn.name == "runtime.NumGoroutine") = false)
    {gs own : List Nat} {vs m as mem0 : List V} (hv : viewO gs own vs m = some (as, mem0)) {T : Told → Prop} {n : Nat}
    (h : awp P F G N (body fn) (ends P fn fun v m' => ∃ t, T t ∧ toldIn gs.length own.length t v m') ⟨as ++ List.replicate n V.un, mem0⟩) (hnt : n = fn.ntmps - as.length)
    {K : V → List V → Prop} (hK : ∀ t, T t → K (backV own t m) (backM own t m)) : CallsG P f vs m K := by
  intro C μ w hB hm
  obtain ⟨c, hc⟩ := Option.isSome_iff_exists.1 hb
  have hbody : body fn = c := by simp [body, hc]
  rw [hbody] at h
  subst hnt
  refine ⟨callFunc_body hf hc hn _ w, frames_ok hv hB hm (fun ν C' hB' hr _ ha => ?_) hK⟩
  exact calls_of_awp hM hF hG hf hc hB' hr ha h
theorem frames_awq (hM : P.follows .mixedOrders = true) (hF : OrcOK P F) (hG : GOrcOK P G) {N : Nat} {f : FuncId} {fn : Func} (hf : P.funcs[f]? = some fn) (hb : fn.body.isSome = true) (hn : (fn.name == "runtime.NumGoroutine") = false)
    {gs own : List Nat} {vs m as mem0 : List V} (hv : viewO gs own vs m = some (as, mem0)) {T : Told → Prop} {n n0 : Nat}
    (h : awq P F G n0 N (body fn) (ends P fn fun v m' => ∃ t, T t ∧ toldIn gs.length own.length t v m') ⟨as ++ List.replicate n V.un, mem0⟩) (hnt : n = fn.ntmps - as.length) (h0 : n0 = mem0.length)
    {K : V → List V → Prop} (hK : ∀ t, T t → K (backV own t m) (backM own t m)) : CallsG P f vs m K := by
  intro C μ w hB hm
  obtain ⟨c, hc⟩ := Option.isSome_iff_exists.1 hb
  have hbody : body fn = c := by simp [body, hc]
  rw [hbody] at h
  subst hnt h0
  refine ⟨callFunc_body hf hc hn _ w, frames_ok hv hB hm (fun ν C' hB' hr hC ha => ?_) hK⟩
  exact calls_of_awq hM hF hG hf hc hB' hC hr ha h
end
end Go.Ev
namespace Go.Ev
/-- What stands behind the first loop. -/
def spineW (P : Program) (F : Orc) (G : GOrc) (n0 N : Nat) : Code → (Exit → St → Prop) → Exit → St → Prop
  | .seq a b, Q => bif hasLoop a then spineW P F G n0 N a (fun e s' => match e with | .normal => awq P F G n0 N b Q s' | e => Q e s') else spineW P F G n0 N b Q
  | .cond _ a b, Q => bif hasLoop a then spineW P F G n0 N a Q else spineW P F G n0 N b Q
  | .block id c, Q => spineW P F G n0 N c (fun e s' => match e with
    | .exit j => (match Nat.beq j id with | true => Q .normal s' | false => Q (.exit j) s')
    | e => Q e s')
  | .scope c, Q => spineW P F G n0 N c (fun e s' => match e with | .goto _ => False | e => Q e s')
  | _, Q => Q
end Go.Ev
attribute [irreducible] Go.Ev.awq Go.Ev.spineW
