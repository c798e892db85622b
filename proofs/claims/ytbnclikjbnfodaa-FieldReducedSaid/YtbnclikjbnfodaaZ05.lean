/-
  A part of the groundwork of this seat's claims: an evaluator over the program, walks, and plain mathematics. Conditions: none.
-/
import Derived.Test.YtbnclikjbnfodaaZ04
/-
  Regions and code of the evaluator say what the model says; a call is what its body is. Conditions: none.
-/
namespace Go.Ev
open RowKit (Below)

def gd (g : Bool) (K : Prop) : Prop := match g with | true => K | false => False
theorem gd_true {g : Bool} {K : Prop} (h : gd g K) : g = true ∧ K := by cases g <;> simp_all [gd]

/-- Callees that touch the caller's memory: what is asked of what stands behind the call. -/
abbrev GOrc := FuncId → List V → List V → (V → List V → Prop) → Prop

def GOrcOK (P : Program) (G : GOrc) : Prop :=
  ∀ f vs m K, G f vs m K → ∀ (C : Ctx) μ w args, C.B ≤ C.w0.heap.size → RelM C μ m w → (∀ μ', Agree m.length μ μ' → args = (vs.map (V.den μ')).toArray) →
    (callFunc f args).run P w = .ok (.enter f args) w ∧
    Calls P f args w fun e w' => ∃ v m' μ1 val, K v m' ∧ e = .returned val ∧ m.length ≤ m'.length ∧ Agree m.length μ μ1 ∧ RelM C μ1 m' w' ∧ ∀ μ', Agree m'.length μ1 μ' → val = v.den μ'

def noG : GOrc := fun _ _ _ _ => False
theorem noG_ok (P : Program) : GOrcOK P noG := fun _ _ _ _ h => h.elim

section
variable (P : Program) (F : Orc) (G : GOrc)

def stA (o : Oper) (ty : TypeId) (a x : Operand) (K : St → Prop) (s : St) : Prop :=
  match ev s.tmps a, ev s.tmps x, tyk P ty with
  | some (.ptr id off), some v, some k => match s.mem[id]? with
    | some c => match wr c off k v with
      | some (g, c') => gd g (K (St.put ⟨s.tmps, s.mem.set id c'⟩ o.dst V.un))
      | none => False
    | none => False
  | _, _, _ => False

def callA (o : Oper) (c : Call) (K : St → Prop) (s : St) : Prop :=
  match c.callee with
  | .value (.func f) => match evs s.tmps c.args.toList with
    | some vs => G f vs s.mem fun v m => K (St.put ⟨s.tmps, m⟩ o.dst v)
    | none => False
  | _ => False

def aop (o : Oper) (K : St → Prop) (s : St) : Prop :=
  match o.op with
  | .alloc ty => match zeroV P ty with
    | some z => K (St.put ⟨s.tmps, s.mem ++ [z]⟩ o.dst (.ptr s.mem.length 0))
    | none => False
  | .box _ x => match ev s.tmps x with
    | some v => K (St.put ⟨s.tmps, s.mem ++ [v]⟩ o.dst (.ptr s.mem.length 0))
    | none => False
  | .store ty a x => stA P o ty a x K s
  | .buildSlice ty len ps => match evParts s.tmps ps.toList with
    | some vs => match bslV P ty len vs with
      | some (g, c) => gd g (K (St.put ⟨s.tmps, s.mem ++ [c]⟩ o.dst (.sl s.mem.length 0 len len)))
      | none => False
    | none => False
  | op => match opv P F s.mem s.tmps op with
    | some (g, v) => gd g (K (s.put o.dst v))
    | none => match op with
      | .call c => callA G o c K s
      | _ => False

def yV (ops : Array Oper) (t : List V) (j : Nat) : Option (Tmp × Bool) :=
  match ops[j]? with
  | some o => match o.dst with
    | some d => match t[d]? with
      | some (.bool b) => some (d, b)
      | _ => none
    | none => none
  | none => none

def agop (ops : Array Oper) (o : Oper) (K : St → Prop) (s : St) : Prop :=
  match o.guard with
  | none => aop P F G o K s
  | some (j, want) => match yV ops s.tmps j with
    | some (d, b) => match b with
      | true => match want with
        | true => aop P F G o K (s.put (some d) (.bool true))
        | false => K ((s.put (some d) (.bool true)).put o.dst V.un)
      | false => match want with
        | false => aop P F G o K (s.put (some d) (.bool false))
        | true => K ((s.put (some d) (.bool false)).put o.dst V.un)
    | none => K (s.put o.dst V.un)

def aops (ops : Array Oper) : List Oper → (St → Prop) → St → Prop
  | [], K, s => K s
  | o :: rest, K, s => agop P F G ops o (aops ops rest K) s

def lp (body : (Exit → St → Prop) → St → Prop) (Q : Exit → St → Prop) : Nat → St → Prop
  | 0, _ => False
  | n + 1, s => body (fun e s' => match e with | .normal => lp body Q n s' | e => Q e s') s

end

/-! ### One operation -/
section
variable {P : Program} {F : Orc} {G : GOrc}

theorem list_set_same {α : Type} {l : List α} {d : Nat} {x : α} (h : l[d]? = some x) : l.set d x = l := by
  apply List.ext_getElem?
  intro i
  rw [List.getElem?_set]
  split
  · rename_i e
    subst e
    obtain ⟨h1, h2⟩ := List.getElem?_eq_some_iff.1 h
    simp [h1, h2]
  · rfl

theorem RelA.put {C : Ctx} {μ : Mu} {s : St} {a : Act} {w : World} (h : RelA C μ s a w) (d : Option Tmp) {v : V} {val : Value} (hv : ∀ μ', Agree s.mem.length μ μ' → val = v.den μ') : RelA C μ (s.put d v) (a.put d val) w := by
  have hm : (s.put d v).mem = s.mem := by cases d <;> rfl
  refine ⟨fun μ' hμ => ?_, h.ext, by rw [hm]; exact h.len⟩
  rw [hm] at hμ ⊢
  obtain ⟨h1, h2⟩ := h.all μ' hμ
  refine ⟨h1, ?_⟩
  subst h2
  rw [hv μ' hμ, act_put μ' s.tmps d v s.mem]

theorem Rel.alloc {μ : Mu} {B : Nat} {w0 w : World} {m : List V} (h : Rel μ B w0 m w) (hB : B ≤ w.heap.size) {c : V} {cs : Array Value} {t : TypeId} (hc : cs = (c.den μ).cells) (hμ : μ m.length = (w.heap.size, 0)) :
    Rel μ B w0 (m ++ [c]) { w with heap := w.heap.push (.cells cs t) } := by
  have hlt : ∀ id v, m[id]? = some v → (μ id).1 < w.heap.size := fun id v hv => by
    obtain ⟨_, _, t, ht⟩ := h.hold id v hv
    exact (Array.getElem?_eq_some_iff.1 ht).1
  refine ⟨h.below.trans ⟨rfl, rfl, rfl, by simp, fun k hk => ?_⟩, fun id v hv => ?_, fun i j hi hj e => ?_⟩
  · simp only [Array.getElem?_push]; rw [if_neg (by omega)]
  · rw [List.getElem?_append] at hv
    split at hv
    · rename_i hid
      obtain ⟨h1, h2, t', ht⟩ := h.hold id v hv
      refine ⟨h1, h2, t', ?_⟩
      simp only [Array.getElem?_push]
      rw [if_neg (by have := hlt id v hv; omega)]; exact ht
    · rename_i hid
      have e : id = m.length := by
        have := (List.getElem?_eq_some_iff.1 hv).1
        simp at this; omega
      subst e
      simp at hv; subst hv
      rw [hμ]
      refine ⟨hB, rfl, t, ?_⟩
      simp [hc]
  · simp only [List.length_append, List.length_cons, List.length_nil] at hi hj
    have key : ∀ i, i < m.length → (μ i).1 < w.heap.size := fun i hi => hlt i m[i] (List.getElem?_eq_getElem hi)
    by_cases h1 : i < m.length
    · by_cases h2 : j < m.length
      · exact h.inj i j h1 h2 e
      · have : j = m.length := by omega
        subst this; rw [hμ] at e; have := key i h1; simp at e; omega
    · have : i = m.length := by omega
      subst this
      by_cases h2 : j < m.length
      · rw [hμ] at e; have := key j h2; simp at e; omega
      · omega

/-- A new block. -/
theorem RelA.alloc {C : Ctx} {μ : Mu} {s : St} {a : Act} {w : World} (h : RelA C μ s a w) (hB : C.B ≤ C.w0.heap.size) (d : Option Tmp) {c : V} {cs : Array Value} {t : TypeId} (hc : ∀ μ', Agree s.mem.length μ μ' → cs = (c.den μ').cells) :
    ∃ μ1, RelA C μ1 (St.put ⟨s.tmps, s.mem ++ [c]⟩ d (.ptr s.mem.length 0)) (a.put d (.pointer (some ⟨w.heap.size, 0, none⟩))) { w with heap := w.heap.push (.cells cs t) } := by
  let μ1 : Mu := fun id => if id = s.mem.length then (w.heap.size, 0) else μ id
  have hag : ∀ n, n ≤ s.mem.length → Agree n μ μ1 := fun n hn id hid => by show (if _ then _ else _) = _; rw [if_neg (by omega)]
  refine ⟨μ1, ?_⟩
  have hbase : RelA C μ1 ⟨s.tmps, s.mem ++ [c]⟩ a { w with heap := w.heap.push (.cells cs t) } := by
    refine ⟨fun μ' hμ => ?_, h.ext.trans (hag _ h.len), by simp; have := h.len; omega⟩
    have hm : Agree s.mem.length μ μ' := (hag _ (Nat.le_refl _)).trans (hμ.mono (by simp))
    obtain ⟨h1, h2⟩ := h.all μ' hm
    refine ⟨h1.alloc (h1.size hB) (hc μ' hm) ?_, h2⟩
    rw [hμ s.mem.length (by simp)]
    show (if _ then _ else _) = _
    rw [if_pos rfl]
  have := hbase.put d (v := .ptr s.mem.length 0) (val := .pointer (some ⟨w.heap.size, 0, none⟩)) (fun μ' hμ => by
    have e : μ' s.mem.length = (w.heap.size, 0) := by
      rw [hμ s.mem.length (by simp)]
      show (if _ then _ else _) = _
      rw [if_pos rfl]
    simp [V.den, e])
  exact this

theorem RelA.alloc2 {C : Ctx} {μ : Mu} {s : St} {a : Act} {w : World} (h : RelA C μ s a w) (hB : C.B ≤ C.w0.heap.size) (d : Option Tmp) {c : V} {cs : Array Value} {t : TypeId} (hc : ∀ μ', Agree s.mem.length μ μ' → cs = (c.den μ').cells) {v : V} {val : Value} (hval : ∀ μ' : Mu, μ' s.mem.length = (w.heap.size, 0) → val = v.den μ') :
    ∃ μ1, RelA C μ1 (St.put ⟨s.tmps, s.mem ++ [c]⟩ d v) (a.put d val) { w with heap := w.heap.push (.cells cs t) } := by
  let μ1 : Mu := fun id => if id = s.mem.length then (w.heap.size, 0) else μ id
  have hag : ∀ n, n ≤ s.mem.length → Agree n μ μ1 := fun n hn id hid => by show (if _ then _ else _) = _; rw [if_neg (by omega)]
  refine ⟨μ1, ?_⟩
  have hbase : RelA C μ1 ⟨s.tmps, s.mem ++ [c]⟩ a { w with heap := w.heap.push (.cells cs t) } := by
    refine ⟨fun μ' hμ => ?_, h.ext.trans (hag _ h.len), by simp; have := h.len; omega⟩
    have hm : Agree s.mem.length μ μ' := (hag _ (Nat.le_refl _)).trans (hμ.mono (by simp))
    obtain ⟨h1, h2⟩ := h.all μ' hm
    refine ⟨h1.alloc (h1.size hB) (hc μ' hm) ?_, h2⟩
    rw [hμ s.mem.length (by simp)]
    show (if _ then _ else _) = _
    rw [if_pos rfl]
  have := hbase.put d (v := v) (val := val) (fun μ' hμ => by
    have e : μ' s.mem.length = (w.heap.size, 0) := by
      rw [hμ s.mem.length (by simp)]
      show (if _ then _ else _) = _
      rw [if_pos rfl]
    exact hval μ' e)
  exact this

theorem Rel.store {μ : Mu} {B : Nat} {w0 w : World} {m : List V} (h : Rel μ B w0 m w) {id : Nat} {c c' : V} {cs : Array Value} (hc : m[id]? = some c) (hcs : cs = (c'.den μ).cells) :
    Rel μ B w0 (m.set id c') (w.setRow (μ id).1 cs) := by
  obtain ⟨hb, h0, t, ht⟩ := h.hold id c hc
  have hid := (List.getElem?_eq_some_iff.1 hc).1
  refine ⟨h.below.trans ⟨rfl, rfl, rfl, by simp [World.setRow], fun k hk => setRow_other w (μ id).1 k cs (by omega)⟩, fun j v hv => ?_, fun i j hi hj e => h.inj i j (by simpa using hi) (by simpa using hj) e⟩
  rw [List.getElem?_set] at hv
  split at hv
  · rename_i e
    subst e
    simp only [Option.some.injEq] at hv; subst hv
    exact ⟨hb, h0, t, by rw [setRow_heap w _ _ _ t _ ht, hcs]⟩
  · rename_i hne
    obtain ⟨h1, h2, t', ht'⟩ := h.hold j v hv
    refine ⟨h1, h2, t', ?_⟩
    rw [setRow_other w _ _ _ (fun e => hne (h.inj id j hid ((List.getElem?_eq_some_iff.1 hv).1) e.symm)), ht']


theorem run_storeVar {C : Ctx} {μ : Mu} {s : St} {a : Act} {w : World} (h : RelA C μ s a w) {id off : Nat} {c c' v : V} {ty : TypeId} {k : Option Nat} (hc : s.mem[id]? = some c) (hk : tyk P ty = some k) (hw : wr c off k v = some (true, c')) (hv : ∀ μ', Agree s.mem.length μ μ' → v.den μ' = v.den μ) :
    ∃ cs, (∀ μ', Agree s.mem.length μ μ' → cs = (c'.den μ').cells) ∧ (storeVar ty ⟨(μ id).1, (μ id).2 + off, none⟩ (v.den μ)).run P w = .ok () (w.setRow (μ id).1 cs) := by
  obtain ⟨i, hi, hsz, _⟩ := tyk_some hk w
  obtain ⟨hr, ha⟩ := h.all μ (Agree.refl _ _)
  obtain ⟨hb, h0, t, ht⟩ := hr.hold id c hc
  obtain ⟨w1, w2, w3, w4⟩ := wr_cells (μ := μ) hw
  refine ⟨((c.den μ).cells.toList.take off ++ (v.den μ).cells.toList ++ (c.den μ).cells.toList.drop (off + (v.den μ).cells.toList.length)).toArray, fun μ' hμ => ?_, ?_⟩
  · obtain ⟨hr', _⟩ := h.all μ' hμ
    obtain ⟨_, _, t', ht'⟩ := hr'.hold id c hc
    have hid := (List.getElem?_eq_some_iff.1 hc).1
    rw [hμ id hid, ht] at ht'
    simp only [Option.some.injEq, Obj.cells.injEq] at ht'
    obtain ⟨_, _, _, w4'⟩ := wr_cells (μ := μ') hw
    rw [← Array.toList_inj, w4', ← ht'.1, hv μ' hμ]
    have w1' : k.getD 1 = (v.den μ).cells.toList.length := by rw [← w1]; simp
    rw [w1']
  · have hone : ∀ u ∈ (v.den μ).cells.toList, u.oneCell' = true := by
      intro u hu
      obtain ⟨h1, h2⟩ := w3 u hu
      cases u <;> first | rfl | exact absurd rfl (h1 _) | exact absurd rfl (h2 _)
    have := run_storeCells_at (P := P) (μ id).1 off t (v.den μ).cells.toList 0 (c.den μ).cells w ht (by simp; omega) hone
    simp only [storeVar, Sem.run_bind, run_size hi, Result.andThen_ok]
    rw [if_neg (by rw [w1, hsz]; simp)]
    simp only [h0, Nat.zero_add]
    simpa using this


/-- What stands behind an operation. -/
def After (C : Ctx) (K : St → Prop) (a : Act) (w : World) : Prop := ∃ s μ, K s ∧ RelA C μ s a w

theorem aop_sound (hF : OrcOK P F) (hG : GOrcOK P G) {C : Ctx} (hB : C.B ≤ C.w0.heap.size) {o : Oper} {K : St → Prop} {s : St} {μ : Mu} {a : Act} {w : World} {Q : Exit → Act → World → Prop}
    (h : aop P F G o K s) (hr : RelA C μ s a w) : o.wp P a w (After C K) Q := by
  obtain ⟨hr0, ha0⟩ := hr.all μ (Agree.refl _ _)
  have hev : ∀ {x : Operand} {v : V}, ev s.tmps x = some v → ∀ μ', Agree s.mem.length μ μ' → a.eval x = v.den μ' := fun {x v} hx μ' hμ => by
    obtain ⟨_, e⟩ := hr.all μ' hμ
    rw [e]; exact ev_den hx
  unfold aop at h
  split at h
  · -- alloc
    rename_i ty hop
    split at h
    · rename_i z hz
      have hrun := run_zeroV (μ := μ) hz w
      obtain ⟨μ1, h1⟩ := hr.alloc hB o.dst (c := z) (cs := (z.den μ).cells) (t := ty) (fun μ' hμ => by
        have := run_zeroV (μ := μ') hz w
        rw [hrun] at this
        simp only [Result.ok.injEq] at this
        rw [this.1])
      unfold Oper.wp execOp
      simp only [hop, Instr.alloc, Sem.run_bind, hrun, Result.andThen_ok, newVar, newRow, newObj, Sem.run, Sem.run_pure]
      exact ⟨_, μ1, h, h1⟩
    · exact h.elim
  · -- box
    rename_i ty x hop
    split at h
    · rename_i v hv
      obtain ⟨μ1, h1⟩ := hr.alloc hB o.dst (c := v) (cs := (a.eval x).cells) (t := ty) (fun μ' hμ => by rw [hev hv μ' hμ])
      unfold Oper.wp execOp
      simp only [hop, Instr.box, Sem.run_bind, newVar, newRow, newObj, Sem.run, Sem.run_pure, Result.andThen_ok]
      exact ⟨_, μ1, h, h1⟩
    · exact h.elim
  · -- store
    rename_i ty x y hop
    unfold stA at h
    split at h
    · rename_i id off v k hx hy hk
      split at h
      · rename_i c hc
        split at h
        · rename_i g c' hw
          obtain ⟨hg, h⟩ := gd_true h
          subst hg
          obtain ⟨cs, hcs, hrun⟩ := run_storeVar hr hc hk hw (fun μ' hμ => by rw [← hev hy μ' hμ, hev hy μ (Agree.refl _ _)])
          have e1 := hev hx μ (Agree.refl _ _)
          have e2 := hev hy μ (Agree.refl _ _)
          simp only [V.den] at e1
          have hbase : RelA C μ ⟨s.tmps, s.mem.set id c'⟩ a (w.setRow (μ id).1 cs) := by
            refine ⟨fun μ' hμ => ?_, hr.ext, by simpa using hr.len⟩
            simp only [List.length_set] at hμ
            obtain ⟨h1, h2⟩ := hr.all μ' hμ
            have hid := (List.getElem?_eq_some_iff.1 hc).1
            have := h1.store hc (hcs μ' hμ)
            rw [hμ id hid] at this
            exact ⟨this, h2⟩
          unfold Oper.wp execOp
          simp only [hop, e1, e2, Instr.storeAt, Instr.sureAddr, Sem.run_bind, Sem.run_pure, Result.andThen_ok, hrun]
          exact ⟨_, μ, h, hbase.put o.dst (fun _ _ => by simp [V.un, V.den, V.dens, undef])⟩
        · exact h.elim
      · exact h.elim
    · exact h.elim
  · -- buildSlice
    rename_i ty len ps hop
    split at h
    · rename_i vs hvs
      split at h
      · rename_i g c hc
        obtain ⟨hg, h⟩ := gd_true h
        subst hg
        have hps : ∀ μ', Agree s.mem.length μ μ' → (ps.map fun p => (p.1, a.eval p.2)) = (vs.map fun p => (p.1, p.2.den μ')).toArray := fun μ' hμ => by
          rw [(hr.all μ' hμ).2, ← Array.toList_inj, Array.toList_map]
          exact evParts_den hvs
        obtain ⟨e, he⟩ := run_bslV (μ := μ) hc w
        obtain ⟨μ1, h1⟩ := hr.alloc2 hB o.dst (c := c) (cs := (c.den μ).cells) (t := e) (fun μ' hμ => by
          obtain ⟨e', he'⟩ := run_bslV (μ := μ') hc w
          rw [← hps μ' hμ, hps μ (Agree.refl _ _), he] at he'
          simp only [Result.ok.injEq, true_and, World.mk.injEq, Array.push_eq_push, Obj.cells.injEq] at he'
          exact he'.1.1.1) (v := .sl s.mem.length 0 len len) (val := .slice (some ⟨w.heap.size, 0, none⟩) len len) (fun μ' h' => by simp [V.den, h'])
        unfold Oper.wp execOp
        simp only [hop, hps μ (Agree.refl _ _), Sem.run_bind, he, Result.andThen_ok, Sem.run_pure]
        exact ⟨_, μ1, h, h1⟩
      · exact h.elim
    · exact h.elim
  · -- quiet, or a call that touches memory
    split at h
    · rename_i g v hv
      obtain ⟨hg, h⟩ := gd_true h
      subst hg
      have hq : ∀ μ', Agree s.mem.length μ μ' → Quiet1 P a o w (v.den μ') (∀ μ μ', Agree s.mem.length μ μ' → v.den μ' = v.den μ) := fun μ' hμ => by
        obtain ⟨h1, h2⟩ := hr.all μ' hμ
        rw [h2]; exact quiet_sound hF hB h1 hv
      have h0 := hq μ (Agree.refl _ _)
      unfold Oper.wp
      rcases h0 with h0 | ⟨f, args, hst0, h0, hc⟩
      · rw [h0]
        refine ⟨_, μ, h, hr.put o.dst fun μ' hμ => ?_⟩
        rcases hq μ' hμ with h1 | ⟨f, args, _, h1, _⟩
        · rw [h0] at h1; simpa using h1
        · rw [h0] at h1; simp at h1
      · rw [h0]
        have hst : ∀ μ', Agree s.mem.length μ μ' → v.den μ = v.den μ' := fun μ' hμ => (hst0 μ μ' hμ).symm
        refine hc.mono fun e w' ⟨he, hb⟩ => ?_
        subst he
        have hg : RelA C μ s a w' := ⟨fun μ' hμ => ⟨(hr.all μ' hμ).1.grow ((hr.all μ' hμ).1.size hB) hb, (hr.all μ' hμ).2⟩, hr.ext, hr.len⟩
        exact ⟨_, μ, h, hg.put o.dst hst⟩
    · split at h
      · rename_i c hop
        unfold callA at h
        split at h
        · rename_i f hc
          split at h
          · rename_i vs hvs
            obtain ⟨h1, h2⟩ := hG f vs s.mem _ h C μ w (vs.map (V.den μ)).toArray hB ⟨fun μ' hμ => (hr.all μ' hμ).1, hr.ext, hr.len⟩ (fun μ' hμ => by
              have e1 := evs_den (μ := μ) hvs
              have e2 := evs_den (μ := μ') hvs
              rw [← ha0] at e1
              rw [← (hr.all μ' hμ).2] at e2
              rw [← e1, e2])
            unfold Oper.wp
            rw [ha0, exec_call hop hc hvs, h1]
            refine h2.mono fun e w' ⟨v, m', μ1, val, hK, he, hl, hag, hrm, hval⟩ => ?_
            subst he
            rw [← ha0]
            have hnew : RelA C μ1 ⟨s.tmps, m'⟩ a w' := ⟨fun μ' hμ => ⟨hrm.all μ' hμ, (hr.all μ' (hag.trans (hμ.mono hl))).2⟩, hrm.ext, hrm.len⟩
            exact ⟨_, μ1, hK, hnew.put o.dst hval⟩
          · exact h.elim
        · exact h.elim
      · exact h.elim

end
end Go.Ev
