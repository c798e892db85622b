/-
  Regions and code of the evaluator say what the model says; a call is what its body is. Conditions: none.
-/
import Derived.Test.YtbnclikjbnfodaaFvD
import Derived.Deep.AppendSrc
import Derived.Laws.IdiomCopy
namespace Go.Ev
open RowKit (Below)

def gd (g : Bool) (K : Prop) : Prop := match g with | true => K | false => False
theorem gd_true {g : Bool} {K : Prop} (h : gd g K) : g = true ∧ K := by cases g <;> simp_all [gd]

/-- Callees that touch the caller's memory: what is asked of what stands behind the call. -/
abbrev GOrc := FuncId → List V → List V → (V → List V → Prop) → Prop

def GOrcOK (P : Program) (G : GOrc) : Prop :=
  ∀ f vs m K, G f vs m K → ∀ (C : Ctx) μ w args, Under C.B C.w0 → RelM C μ m w → (∀ μ', Agree m.length μ μ' → args = (vs.map (V.den μ')).toArray) →
    (callFunc f args).run P w = .ok (.enter f args) w ∧
    Calls P f args w fun e w' => ∃ v m' μ1 val, K v m' ∧ e = .returned val ∧ m.length ≤ m'.length ∧ Agree m.length μ μ1 ∧ RelM C μ1 m' w' ∧ ∀ μ', Agree m'.length μ1 μ' → val = v.den μ'

def noG : GOrc := fun _ _ _ _ => False
theorem noG_ok (P : Program) : GOrcOK P noG := fun _ _ _ _ h => h.elim

section
variable (P : Program) (F : Orc) (G : GOrc)

def stA (o : Oper) (ty : TypeId) (a x : Operand) (K : St → Prop) (s : St) : Prop :=
  match ev s.tmps a, ev s.tmps x, tyk P ty with
  | some (.ptr id off), some v, some k => match s.mem[id]? with
    | some c => match wr c off k v with
      | some (g, c') => gd g (K (St.put ⟨s.tmps, s.mem.set id c'⟩ o.dst V.un))
      | none => False
    | none => False
  | _, _, _ => False

def mkA (o : Oper) (ty : TypeId) (l c : Operand) (K : St → Prop) (s : St) : Prop :=
  match ev s.tmps l, ev s.tmps c with
  | some (.int _ n), some (.int _ m) => match mslV P ty m with
    | some (g, b) => gd (g && decide (0 ≤ n ∧ n ≤ m ∧ m ≤ 16777216)) (K (St.put ⟨s.tmps, s.mem ++ [b]⟩ o.dst (.sl s.mem.length 0 n.toNat m.toNat)))
    | none => False
  | _, _ => False

def appA (o : Oper) (cl : Call) (K : St → Prop) (s : St) : Prop :=
  match cl.argTypes.toList, evs s.tmps cl.args.toList with
  | [dT, sT], some [dv, .sl id2 off2 n _] => match P.underlying dT, P.underlying sT, s.mem[id2]? with
    | some (.slice e), some (.slice _), some c2 => match P.info? e, zeroV P e with
      | some i, some z => match rd (strip c2) off2 (some (szm n i.size)) with
        | some (g, new) => gd (g && Nat.blt 0 i.size && Nat.ble i.bytes 4096 && isRow new && Nat.beq (zsz z) i.size) (match dv with
          | .snil => match Nat.blt 0 n with
            | true => gd (Nat.ble n 1048576) (∀ cap, n ≤ cap → match apV z (szm cap i.size) 0 (nilV z) (szm n i.size) new with
              | some r => K (St.put ⟨s.tmps, s.mem ++ [r]⟩ o.dst (.sl s.mem.length 0 n cap))
              | none => False)
            | false => K (St.put s o.dst .snil)
          | .sl id off len cap => match s.mem[id]? with
            | some c => match Nat.ble (len + n) cap with
              | true => match wr c (off + szm len i.size) (some (szm n i.size)) new with
                | some (g', c') => gd g' (K (St.put ⟨s.tmps, s.mem.set id c'⟩ o.dst (.sl id off (len + n) cap)))
                | none => False
              | false => match rd (strip c) off (some (szm len i.size)) with
                | some (g', old) => gd (g' && Nat.ble (len + n) 1048576) (∀ cap', len + n ≤ cap' → match apV z (szm cap' i.size) (szm len i.size) old (szm n i.size) new with
                  | some r => K (St.put ⟨s.tmps, s.mem ++ [r]⟩ o.dst (.sl s.mem.length 0 (len + n) cap'))
                  | none => False)
                | none => False
            | none => False
          | _ => False)
        | none => False
      | _, _ => False
    | _, _, _ => False
  | [dT, sT], some [dv, .snil] => match P.underlying dT, P.underlying sT with
    | some (.slice e), some (.slice _) => match P.info? e, dv with
      | some _, .snil => K (St.put s o.dst .snil)
      | some _, .sl id off len cap => match s.mem[id]? with
        | some _ => gd (Nat.ble len cap) (K (St.put s o.dst (.sl id off len cap)))
        | none => False
      | _, _ => False
    | _, _ => False
  | _, _ => False

def copA (o : Oper) (cl : Call) (K : St → Prop) (s : St) : Prop :=
  match cl.argTypes.toList, evs s.tmps cl.args.toList with
  | [dT, sT], some [.sl id off len _, .sl id2 off2 len2 _] => match P.underlying dT, P.underlying sT, s.mem[id]?, s.mem[id2]? with
    | some (.slice e), some (.slice _), some c, some c2 => match P.info? e with
      | some i => match rd (strip c2) off2 (some (Nat.min len2 len * i.size)) with
        | some (g, v) => match wr c off (some (Nat.min len2 len * i.size)) v with
          | some (g', c') => gd (g && g' && isRow v) (K (St.put ⟨s.tmps, s.mem.set id c'⟩ o.dst (.int .i64 (Nat.min len2 len : Nat))))
          | none => False
        | none => False
      | none => False
    | _, _, _, _ => False
  | _, _ => False

def callA (o : Oper) (c : Call) (K : St → Prop) (s : St) : Prop :=
  match c.callee with
  | .value (.func f) => match evs s.tmps c.args.toList with
    | some vs => G f vs s.mem fun v m => K (St.put ⟨s.tmps, m⟩ o.dst v)
    | none => False
  | .builtin .append => appA P o c K s
  | .builtin .copy => copA P o c K s
  | _ => False

def aop (o : Oper) (K : St → Prop) (s : St) : Prop :=
  match o.op with
  | .alloc ty => match zeroV P ty with
    | some z => K (St.put ⟨s.tmps, s.mem ++ [z]⟩ o.dst (.ptr s.mem.length 0))
    | none => False
  | .box _ x => match ev s.tmps x with
    | some v => match roOf v with
      | none => K (St.put ⟨s.tmps, s.mem ++ [v]⟩ o.dst (.ptr s.mem.length 0))
      | some _ => False
    | none => False
  | .store ty a x => stA P o ty a x K s
  | .buildSlice ty len ps => match evParts s.tmps ps.toList with
    | some vs => match bslV P ty len vs with
      | some (g, c) => gd g (K (St.put ⟨s.tmps, s.mem ++ [c]⟩ o.dst (.sl s.mem.length 0 len len)))
      | none => False
    | none => False
  | .makeSlice ty l c => mkA P o ty l c K s
  | op => match opv P F s.mem s.tmps op with
    | some (g, v) => gd g (K (s.put o.dst v))
    | none => match op with
      | .call c => callA P G o c K s
      | _ => False

def yV (ops : Array Oper) (t : List V) (j : Nat) : Option (Tmp × Bool) :=
  match ops[j]? with
  | some o => match o.dst with
    | some d => match t[d]? with
      | some (.bool b) => some (d, b)
      | _ => none
    | none => none
  | none => none

def agop (ops : Array Oper) (o : Oper) (K : St → Prop) (s : St) : Prop :=
  match o.guard with
  | none => aop P F G o K s
  | some (j, want) => match yV ops s.tmps j with
    | some (d, b) => match b with
      | true => match want with
        | true => aop P F G o K (s.put (some d) (.bool true))
        | false => K ((s.put (some d) (.bool true)).put o.dst V.un)
      | false => match want with
        | false => aop P F G o K (s.put (some d) (.bool false))
        | true => K ((s.put (some d) (.bool false)).put o.dst V.un)
    | none => K (s.put o.dst V.un)

def aops (ops : Array Oper) : List Oper → (St → Prop) → St → Prop
  | [], K, s => K s
  | o :: rest, K, s => agop P F G ops o (aops ops rest K) s

def lp (body : (Exit → St → Prop) → St → Prop) (Q : Exit → St → Prop) : Nat → St → Prop
  | 0, _ => False
  | n + 1, s => body (fun e s' => match e with | .normal => lp body Q n s' | e => Q e s') s

end

/-! ### One operation -/
section
variable {P : Program} {F : Orc} {G : GOrc}

theorem list_set_same {α : Type} {l : List α} {d : Nat} {x : α} (h : l[d]? = some x) : l.set d x = l := by
  apply List.ext_getElem?
  intro i
  rw [List.getElem?_set]
  split
  · rename_i e
    subst e
    obtain ⟨h1, h2⟩ := List.getElem?_eq_some_iff.1 h
    simp [h1, h2]
  · rfl

theorem RelA.put {C : Ctx} {μ : Mu} {s : St} {a : Act} {w : World} (h : RelA C μ s a w) (d : Option Tmp) {v : V} {val : Value} (hv : ∀ μ', Agree s.mem.length μ μ' → val = v.den μ') : RelA C μ (s.put d v) (a.put d val) w := by
  have hm : (s.put d v).mem = s.mem := by cases d <;> rfl
  refine ⟨fun μ' hμ => ?_, h.ext, by rw [hm]; exact h.len⟩
  rw [hm] at hμ ⊢
  obtain ⟨h1, h2⟩ := h.all μ' hμ
  refine ⟨h1, ?_⟩
  subst h2
  rw [hv μ' hμ, act_put μ' s.tmps d v s.mem]

theorem Rel.alloc {μ : Mu} {B : Blk} {w0 w : World} {m : List V} (h : Rel μ B w0 m w) (hB : Under B w) {c : V} {cs : Array Value} {t : TypeId} (hc : cs = (c.den μ).cells) (ho : roOf c = none) (hμ : μ m.length = (w.heap.size, 0)) :
    Rel μ B w0 (m ++ [c]) { w with heap := w.heap.push (.cells cs t) } := by
  have hlt : ∀ id v, m[id]? = some v → (μ id).1 < w.heap.size := fun id v hv => (h.hold id v hv).lt
  refine ⟨h.below.trans ⟨rfl, rfl, rfl, by simp, fun k hk => ?_⟩, fun id v hv => ?_, fun i j hi hj hb e => ?_⟩
  · simp only [Array.getElem?_push]; rw [if_neg (by have := hB k hk; omega)]
  · rw [List.getElem?_append] at hv
    split at hv
    · rename_i hid
      refine (h.hold id v hv).keep ?_
      simp only [Array.getElem?_push]
      rw [if_neg (by have := hlt id v hv; omega)]
    · rename_i hid
      have e : id = m.length := by
        have := (List.getElem?_eq_some_iff.1 hv).1
        simp at this; omega
      subst e
      simp at hv; subst hv
      refine Held.mk ho ?_
      rw [hμ]
      refine ⟨fun h => Nat.lt_irrefl _ (hB _ h), rfl, t, ?_⟩
      simp [hc]
  · simp only [List.length_append, List.length_cons, List.length_nil] at hi hj
    have key : ∀ i, i < m.length → (μ i).1 < w.heap.size := fun i hi => hlt i m[i] (List.getElem?_eq_getElem hi)
    by_cases h1 : i < m.length
    · by_cases h2 : j < m.length
      · exact h.inj i j h1 h2 hb e
      · have : j = m.length := by omega
        subst this; rw [hμ] at e; have := key i h1; simp at e; omega
    · have : i = m.length := by omega
      subst this
      by_cases h2 : j < m.length
      · rw [hμ] at e; have := key j h2; simp at e; omega
      · omega

theorem RelA.alloc {C : Ctx} {μ : Mu} {s : St} {a : Act} {w : World} (h : RelA C μ s a w) (hB : Under C.B C.w0) (d : Option Tmp) {c : V} {cs : Array Value} {t : TypeId} (ho : roOf c = none) (hc : ∀ μ', Agree s.mem.length μ μ' → cs = (c.den μ').cells) :
    ∃ μ1, RelA C μ1 (St.put ⟨s.tmps, s.mem ++ [c]⟩ d (.ptr s.mem.length 0)) (a.put d (.pointer (some ⟨w.heap.size, 0, none⟩))) { w with heap := w.heap.push (.cells cs t) } := by
  let μ1 : Mu := fun id => if id = s.mem.length then (w.heap.size, 0) else μ id
  have hag : ∀ n, n ≤ s.mem.length → Agree n μ μ1 := fun n hn id hid => by show (if _ then _ else _) = _; rw [if_neg (by omega)]
  refine ⟨μ1, ?_⟩
  have hbase : RelA C μ1 ⟨s.tmps, s.mem ++ [c]⟩ a { w with heap := w.heap.push (.cells cs t) } := by
    refine ⟨fun μ' hμ => ?_, h.ext.trans (hag _ h.len), by simp; have := h.len; omega⟩
    have hm : Agree s.mem.length μ μ' := (hag _ (Nat.le_refl _)).trans (hμ.mono (by simp))
    obtain ⟨h1, h2⟩ := h.all μ' hm
    refine ⟨h1.alloc (h1.size hB) (hc μ' hm) ho ?_, h2⟩
    rw [hμ s.mem.length (by simp)]
    show (if _ then _ else _) = _
    rw [if_pos rfl]
  have := hbase.put d (v := .ptr s.mem.length 0) (val := .pointer (some ⟨w.heap.size, 0, none⟩)) (fun μ' hμ => by
    have e : μ' s.mem.length = (w.heap.size, 0) := by
      rw [hμ s.mem.length (by simp)]
      show (if _ then _ else _) = _
      rw [if_pos rfl]
    simp [V.den, e])
  exact this

theorem RelA.alloc2 {C : Ctx} {μ : Mu} {s : St} {a : Act} {w : World} (h : RelA C μ s a w) (hB : Under C.B C.w0) (d : Option Tmp) {c : V} {cs : Array Value} {t : TypeId} (ho : roOf c = none) (hc : ∀ μ', Agree s.mem.length μ μ' → cs = (c.den μ').cells) {v : V} {val : Value} (hval : ∀ μ' : Mu, μ' s.mem.length = (w.heap.size, 0) → val = v.den μ') :
    ∃ μ1, RelA C μ1 (St.put ⟨s.tmps, s.mem ++ [c]⟩ d v) (a.put d val) { w with heap := w.heap.push (.cells cs t) } := by
  let μ1 : Mu := fun id => if id = s.mem.length then (w.heap.size, 0) else μ id
  have hag : ∀ n, n ≤ s.mem.length → Agree n μ μ1 := fun n hn id hid => by show (if _ then _ else _) = _; rw [if_neg (by omega)]
  refine ⟨μ1, ?_⟩
  have hbase : RelA C μ1 ⟨s.tmps, s.mem ++ [c]⟩ a { w with heap := w.heap.push (.cells cs t) } := by
    refine ⟨fun μ' hμ => ?_, h.ext.trans (hag _ h.len), by simp; have := h.len; omega⟩
    have hm : Agree s.mem.length μ μ' := (hag _ (Nat.le_refl _)).trans (hμ.mono (by simp))
    obtain ⟨h1, h2⟩ := h.all μ' hm
    refine ⟨h1.alloc (h1.size hB) (hc μ' hm) ho ?_, h2⟩
    rw [hμ s.mem.length (by simp)]
    show (if _ then _ else _) = _
    rw [if_pos rfl]
  have := hbase.put d (v := v) (val := val) (fun μ' hμ => by
    have e : μ' s.mem.length = (w.heap.size, 0) := by
      rw [hμ s.mem.length (by simp)]
      show (if _ then _ else _) = _
      rw [if_pos rfl]
    exact hval μ' e)
  exact this

theorem Rel.store {μ : Mu} {B : Blk} {w0 w : World} {m : List V} (h : Rel μ B w0 m w) {id : Nat} {c c' : V} {cs : Array Value} (hc : m[id]? = some c) (ho : roOf c = none) (ho' : roOf c' = none) (hcs : cs = (c'.den μ).cells) :
    Rel μ B w0 (m.set id c') (w.setRow (μ id).1 cs) := by
  obtain ⟨hb, h0, t, ht⟩ := (h.hold id c hc).own ho
  have hid := (List.getElem?_eq_some_iff.1 hc).1
  refine ⟨h.below.trans ⟨rfl, rfl, rfl, by simp [World.setRow], fun k hk => setRow_other w (μ id).1 k cs (fun e => hb (e ▸ hk))⟩, fun j v hv => ?_, fun i j hi hj hb e => h.inj i j (by simpa using hi) (by simpa using hj) hb e⟩
  rw [List.getElem?_set] at hv
  split at hv
  · rename_i e
    subst e
    simp only [Option.some.injEq] at hv; subst hv
    exact Held.mk ho' ⟨hb, h0, t, by rw [setRow_heap w _ _ _ t _ ht, hcs]⟩
  · rename_i hne
    refine (h.hold j v hv).keep ?_
    exact setRow_other w _ _ _ (fun e => hne (h.inj id j hid ((List.getElem?_eq_some_iff.1 hv).1) hb e.symm))

theorem ofValue_own {v : Value} {z : V} (h : ofValue v = some z) : roOf z = none := by
  unfold ofValue at h
  split at h <;> simp at h <;> subst h <;> rfl
theorem ofZero_own {v : Value} {z : V} (h : ofZero v = some z) : roOf z = none := by
  unfold ofZero at h
  split at h
  · split at h
    · cases hb : zeroInts _ _ <;> rw [hb] at h <;> simp only [cond_true, cond_false, Option.some.injEq, Option.map_eq_some_iff] at h
      · obtain ⟨_, _, rfl⟩ := h; rfl
      · subst h; rfl
    · cases hb : zeroBools _ <;> rw [hb] at h <;> simp only [cond_true, cond_false, Option.some.injEq, Option.map_eq_some_iff] at h
      · obtain ⟨_, _, rfl⟩ := h; rfl
      · subst h; rfl
    · obtain ⟨_, _, rfl⟩ := Option.map_eq_some_iff.1 h; rfl
  · exact ofValue_own h
theorem zeroV_own {t : TypeId} {z : V} (h : zeroV P t = some z) : roOf z = none := by
  unfold zeroV at h
  split at h
  · split at h
    · exact ofZero_own h
    · cases h
  · cases h
theorem agg_own {c : V} {μ : Mu} (h : ∃ a, c.den μ = .agg a) : roOf c = none := by
  obtain ⟨a, ha⟩ := h
  unfold roOf
  split
  · simp [V.den] at ha
  · simp [V.den] at ha
  · simp [V.den] at ha
  · rfl
theorem bslV_own {t : TypeId} {len : Nat} {ps : List (Nat × V)} {c : V} {g : Bool} (h : bslV P t len ps = some (g, c)) (hg : g = true) : roOf c = none := by
  subst hg
  unfold bslV at h
  split at h
  · split at h
    · rename_i i k m f hi hz
      cases hc : (Nat.beq m i.size && Nat.ble (len * m) 16777216 && Nat.blt 0 (len * m)) <;> rw [hc] at h
      · simp at h
      · rw [cond_true] at h
        exact agg_own (μ := fun _ => (0, 0)) (lay_agg h ⟨_, by simp [V.den]; rfl⟩)
    · rename_i i k n hi hz
      cases hc : (Nat.beq 1 i.size && Nat.ble len 16777216 && Nat.blt 0 len) <;> rw [hc] at h
      · simp at h
      · rw [cond_true] at h
        exact agg_own (μ := fun _ => (0, 0)) (lay_agg h ⟨_, by simp [V.den]; rfl⟩)
    · rename_i i b hi hz
      cases hc : (Nat.beq 1 i.size && Nat.ble len 16777216) <;> rw [hc] at h
      · simp at h
      · rw [cond_true] at h
        exact agg_own (μ := fun _ => (0, 0)) (lay_agg h ⟨_, by simp [V.den]; rfl⟩)
    · simp at h
  · simp at h
theorem wr_own {c c' v : V} {off : Nat} {k : Option Nat} (h : wr c off k v = some (true, c')) : roOf c = none ∧ roOf c' = none := by
  constructor
  · unfold roOf
    split
    · simp [wr] at h
    · simp [wr] at h
    · simp [wr] at h
    · rfl
  · unfold wr at h
    split at h <;> (try split at h) <;> simp only [Option.some.injEq, Prod.mk.injEq, reduceCtorEq, Bool.and_eq_true] at h <;> first
      | (obtain ⟨_, rfl⟩ := h; rfl)
      | (obtain ⟨⟨_, hs⟩, rfl⟩ := h; unfold roOf; split; · simp [V.scalar] at hs
         · simp [V.scalar] at hs
         · simp [V.scalar] at hs
         · rfl)
theorem run_storeVar {C : Ctx} {μ : Mu} {s : St} {a : Act} {w : World} (h : RelA C μ s a w) {id off : Nat} {c c' v : V} {ty : TypeId} {k : Option Nat} (hc : s.mem[id]? = some c) (hk : tyk P ty = some k) (hw : wr c off k v = some (true, c')) (hv : ∀ μ', Agree s.mem.length μ μ' → v.den μ' = v.den μ) :
    ∃ cs, (∀ μ', Agree s.mem.length μ μ' → cs = (c'.den μ').cells) ∧ (storeVar ty ⟨(μ id).1, (μ id).2 + off, none⟩ (v.den μ)).run P w = .ok () (w.setRow (μ id).1 cs) := by
  obtain ⟨i, hi, hsz, _⟩ := tyk_some hk w
  obtain ⟨hr, ha⟩ := h.all μ (Agree.refl _ _)
  obtain ⟨hb, h0, t, ht⟩ := (hr.hold id c hc).own (wr_own hw).1
  obtain ⟨w1, w2, w3, w4⟩ := wr_cells (μ := μ) hw
  refine ⟨((c.den μ).cells.toList.take off ++ (v.den μ).cells.toList ++ (c.den μ).cells.toList.drop (off + (v.den μ).cells.toList.length)).toArray, fun μ' hμ => ?_, ?_⟩
  · obtain ⟨hr', _⟩ := h.all μ' hμ
    obtain ⟨_, _, t', ht'⟩ := (hr'.hold id c hc).own (wr_own hw).1
    have hid := (List.getElem?_eq_some_iff.1 hc).1
    rw [hμ id hid, ht] at ht'
    simp only [Option.some.injEq, Obj.cells.injEq] at ht'
    obtain ⟨_, _, _, w4'⟩ := wr_cells (μ := μ') hw
    rw [← Array.toList_inj, w4', ← ht'.1, hv μ' hμ]
    have w1' : k.getD 1 = (v.den μ).cells.toList.length := by rw [← w1]; simp
    rw [w1']
  · have hone : ∀ u ∈ (v.den μ).cells.toList, u.oneCell' = true := by
      intro u hu
      obtain ⟨h1, h2⟩ := w3 u hu
      cases u <;> first | rfl | exact absurd rfl (h1 _) | exact absurd rfl (h2 _)
    have := run_storeCells_at (P := P) (μ id).1 off t (v.den μ).cells.toList 0 (c.den μ).cells w ht (by simp; omega) hone
    simp only [storeVar, Sem.run_bind, run_size hi, Result.andThen_ok]
    rw [if_neg (by rw [w1, hsz]; simp)]
    simp only [h0, Nat.zero_add]
    simpa using this


theorem RelA.store {C : Ctx} {μ : Mu} {s : St} {a : Act} {w : World} (hr : RelA C μ s a w) {id off : Nat} {c c' v : V} {k : Option Nat} {cs : Array Value} (hc : s.mem[id]? = some c) (hw : wr c off k v = some (true, c'))
    (hcs : ∀ μ', Agree s.mem.length μ μ' → cs = (c'.den μ').cells) : RelA C μ ⟨s.tmps, s.mem.set id c'⟩ a (w.setRow (μ id).1 cs) := by
  refine ⟨fun μ' hμ => ?_, hr.ext, by simpa using hr.len⟩
  simp only [List.length_set] at hμ
  obtain ⟨h1, h2⟩ := hr.all μ' hμ
  have hid := (List.getElem?_eq_some_iff.1 hc).1
  have := h1.store hc (wr_own hw).1 (wr_own hw).2 (hcs μ' hμ)
  rw [hμ id hid] at this
  exact ⟨this, h2⟩
theorem run_storeW {C : Ctx} {μ : Mu} {s : St} {a : Act} {w : World} (h : RelA C μ s a w) {id off : Nat} {c c' v : V} {k : Option Nat} (hc : s.mem[id]? = some c) (hw : wr c off k v = some (true, c')) (hv : ∀ μ', Agree s.mem.length μ μ' → v.den μ' = v.den μ) :
    ∃ cs, (∀ μ', Agree s.mem.length μ μ' → cs = (c'.den μ').cells) ∧ (storeCells ⟨(μ id).1, (μ id).2 + off, none⟩ (v.den μ).cells.toList).run P w = .ok () (w.setRow (μ id).1 cs) := by
  obtain ⟨hr, ha⟩ := h.all μ (Agree.refl _ _)
  obtain ⟨hb, h0, t, ht⟩ := (hr.hold id c hc).own (wr_own hw).1
  obtain ⟨w1, w2, w3, w4⟩ := wr_cells (μ := μ) hw
  refine ⟨((c.den μ).cells.toList.take off ++ (v.den μ).cells.toList ++ (c.den μ).cells.toList.drop (off + (v.den μ).cells.toList.length)).toArray, fun μ' hμ => ?_, ?_⟩
  · obtain ⟨hr', _⟩ := h.all μ' hμ
    obtain ⟨_, _, t', ht'⟩ := (hr'.hold id c hc).own (wr_own hw).1
    have hid := (List.getElem?_eq_some_iff.1 hc).1
    rw [hμ id hid, ht] at ht'
    simp only [Option.some.injEq, Obj.cells.injEq] at ht'
    obtain ⟨_, _, _, w4'⟩ := wr_cells (μ := μ') hw
    rw [← Array.toList_inj, w4', ← ht'.1, hv μ' hμ]
    have w1' : k.getD 1 = (v.den μ).cells.toList.length := by rw [← w1]; simp
    rw [w1']
  · have hone : ∀ u ∈ (v.den μ).cells.toList, u.oneCell' = true := by
      intro u hu
      obtain ⟨h1, h2⟩ := w3 u hu
      cases u <;> first | rfl | exact absurd rfl (h1 _) | exact absurd rfl (h2 _)
    have := run_storeCells_at (P := P) (μ id).1 off t (v.den μ).cells.toList 0 (c.den μ).cells w ht (by simp; omega) hone
    simp only [h0, Nat.zero_add]
    simpa using this
theorem RelA.drew {C : Ctx} {μ : Mu} {s : St} {a : Act} {w : World} (h : RelA C μ s a w) : RelA C μ s a w.drew :=
  ⟨fun μ' hμ => by
    obtain ⟨h1, h2⟩ := h.all μ' hμ
    exact ⟨⟨h1.below.trans ⟨rfl, rfl, rfl, Nat.le_refl _, fun _ _ => rfl⟩, h1.hold, h1.inj⟩, h2⟩, h.ext, h.len⟩
theorem isRow_den {v : V} (h : isRow v = true) (μ μ' : Mu) : v.den μ' = v.den μ := by
  cases v <;> simp [isRow] at h <;> simp [V.den]
theorem isRow_one {v : V} (h : isRow v = true) (μ : Mu) : ∀ u ∈ (v.den μ).cells.toList, u.oneCell' = true := by
  intro u hu
  cases v <;> simp [isRow] at h
  · rw [cells_ints] at hu; simp at hu; obtain ⟨_, _, rfl⟩ := hu; rfl
  · rw [cells_bools] at hu; simp at hu; obtain ⟨_, _, rfl⟩ := hu; rfl
/-- A slice's content is what a read of it yields. -/
theorem row_cells {μ : Mu} {B : Blk} {w0 w : World} {m : List V} (hr : Rel μ B w0 m w) {id off n : Nat} {c v : V} (hc : m[id]? = some c) (h : rd (strip c) off (some n) = some (true, v)) :
    (v.den μ).cells.toList.length = n ∧ ∀ j u, (v.den μ).cells.toList[j]? = some u → w.cell? ((⟨(μ id).1, (μ id).2 + off, none⟩ : Addr).add j) = some u := by
  obtain ⟨cs, e1, e2, e3⟩ := rd_many (μ := μ) h
  have e4 : (v.den μ).cells.toList = cs := by rw [e1]; simp [Value.cells]
  rw [e4]
  refine ⟨e3, fun j u hu => ?_⟩
  have hadd : (⟨(μ id).1, (μ id).2 + off, none⟩ : Addr).add j = ⟨(μ id).1, (μ id).2 + (off + j), none⟩ := by
    unfold Addr.add; split <;> simp_all [Nat.add_assoc]
  rw [e2, List.getElem?_take] at hu
  split at hu
  · rw [hadd]
    exact hr.cell hc (by simpa using hu)
  · simp at hu
theorem apV_own {z r old new : V} {cap l n : Nat} (h : apV z cap l old n new = some r) : isRow r = true ∧ roOf r = none := by
  unfold apV at h
  split at h
  · rename_i kz m z0 k _ f k' _ g
    cases hc : (eqK k k' && eqK kz k && Nat.blt 0 m) <;> rw [hc] at h <;> simp at h
    subst h; exact ⟨rfl, rfl⟩
  · rename_i kz z0 k _ f k' _ g
    cases hc : (eqK k k' && eqK kz k) <;> rw [hc] at h <;> simp at h
    subst h; exact ⟨rfl, rfl⟩
  · simp at h; subst h; exact ⟨rfl, rfl⟩
  · simp at h
theorem map_ap {α : Type} (f g : Nat → α) (z : α) (l n cap : Nat) (h : l + n ≤ cap) : (List.range cap).map (ap l n f g z) = (List.range l).map f ++ (List.range n).map g ++ List.replicate (cap - (l + n)) z := by
  apply List.ext_getElem (by simp; omega)
  intro i h1 h2
  simp at h1
  simp only [List.getElem_map, List.getElem_range, List.getElem_append, List.length_append, List.length_map, List.length_range, List.getElem_replicate]
  unfold ap
  by_cases ha : i < l
  · rw [bltT.2 ha, cond_true, dif_pos (by omega), dif_pos ha]
  · rw [ff bltT ha, cond_false]
    by_cases hb : i < l + n
    · rw [bltT.2 hb, cond_true, dif_pos hb, dif_neg ha]
    · rw [ff bltT hb, cond_false, dif_neg hb]
theorem map_apf {α : Type} (f g z : Nat → α) (l n cap : Nat) (h : l + n ≤ cap) : (List.range cap).map (apf l n f g z) = (List.range l).map f ++ (List.range n).map g ++ (List.range (cap - (l + n))).map z := by
  apply List.ext_getElem (by simp; omega)
  intro i h1 h2
  simp at h1
  simp only [List.getElem_map, List.getElem_range, List.getElem_append, List.length_append, List.length_map, List.length_range]
  unfold apf
  by_cases ha : i < l
  · rw [bltT.2 ha, cond_true, dif_pos (by omega), dif_pos ha]
  · rw [ff bltT ha, cond_false]
    by_cases hb : i < l + n
    · rw [bltT.2 hb, cond_true, dif_pos hb, dif_neg ha]
    · rw [ff bltT hb, cond_false, dif_neg hb]
theorem apV_cells {μ : Mu} {z r old new : V} {C l n s : Nat} (hs : 0 < s) (h : apV z (szm C s) (szm l s) old (szm n s) new = some r) (hz : (z.den μ).cells.size = s) (ho : (old.den μ).cells.toList.length = l * s) (hn : (new.den μ).cells.toList.length = n * s) (hcap : l + n ≤ C) :
    (r.den μ).cells = ((old.den μ).cells.toList ++ (new.den μ).cells.toList).toArray ++ Builtin.zeroCells (z.den μ).cells (C - (l + n)) := by
  rw [szm_eq, szm_eq, szm_eq] at h
  have hcap' : l * s + n * s ≤ C * s := by rw [← Nat.add_mul]; exact Nat.mul_le_mul_right s hcap
  unfold apV at h
  split at h
  · rename_i kz m z0 k ol f k' nl g
    cases hc : (eqK k k' && eqK kz k && Nat.blt 0 m) <;> rw [hc] at h <;> simp at h
    simp only [Bool.and_eq_true] at hc
    have h1 := eqK_eq hc.1.1; have h2 := eqK_eq hc.1.2
    have h3 := bltT.1 hc.2
    subst h1; subst h2; subst h
    rw [cells_ints] at ho hn hz
    simp at ho hn hz
    subst ho; subst hn; subst hz
    rw [cells_ints, cells_ints, cells_ints, cells_ints]
    have e := congrArg (List.map (Value.int kz)) (map_apf f g (fun q => z0 (q % m)) (l * m) (n * m) (C * m) hcap')
    have e2 : C * m - (l * m + n * m) = (C - (l + n)) * m := by rw [← Nat.add_mul, Nat.sub_mul]
    apply Array.ext'
    simp only [List.map_map, List.map_append, Function.comp_def] at e
    simp only [e, e2, Builtin.zeroCells]
    simp only [Array.toList_append, List.append_assoc, List.append_cancel_left_eq]
    apply List.ext_getElem (by simp)
    intro i h1 h2
    have : i % m < m := Nat.mod_lt _ h3
    simp [this]
  · rename_i kz z0 k ol f k' nl g
    cases hc : (eqK k k' && eqK kz k) <;> rw [hc] at h <;> simp at h
    simp only [Bool.and_eq_true] at hc
    have h1 := eqK_eq hc.1; have h2 := eqK_eq hc.2
    subst h1; subst h2; subst h
    have hs1 : s = 1 := by simpa [V.den, Value.cells] using hz.symm
    subst hs1
    simp only [Nat.mul_one] at *
    rw [cells_ints] at ho hn
    simp at ho hn
    subst ho; subst hn
    rw [cells_ints, cells_ints, cells_ints]
    have e := congrArg (List.map (Value.int kz)) (map_ap f g z0 ol nl C hcap)
    apply Array.ext'
    simp only [List.map_map, List.map_append, List.map_replicate, Function.comp_def] at e
    simp only [e, Builtin.zeroCells, V.den, Value.cells]
    simp [Nat.mod_one]
    rw [List.map_const']
    simp
  · rename_i z0 ol f nl g
    simp at h
    subst h
    have hs1 : s = 1 := by simpa [V.den, Value.cells] using hz.symm
    subst hs1
    simp only [Nat.mul_one] at *
    rw [cells_bools] at ho hn
    simp at ho hn
    subst ho; subst hn
    rw [cells_bools, cells_bools, cells_bools]
    have e := congrArg (List.map Value.bool) (map_ap f g z0 ol nl C hcap)
    apply Array.ext'
    simp only [List.map_map, List.map_append, List.map_replicate, Function.comp_def] at e
    simp only [e, Builtin.zeroCells, V.den, Value.cells]
    simp [Nat.mod_one]
    rw [List.map_const']
    simp
  · simp at h

/-- What stands behind an operation. -/
def After (C : Ctx) (K : St → Prop) (a : Act) (w : World) : Prop := ∃ s μ, K s ∧ RelA C μ s a w

theorem mslV_own {t : TypeId} {m : Int} {b : V} {g : Bool} (h : mslV P t m = some (g, b)) : roOf b = none := by
  unfold mslV at h
  split at h
  · split at h
    · simp only [Option.some.injEq, Prod.mk.injEq] at h; obtain ⟨_, rfl⟩ := h; rfl
    · simp only [Option.some.injEq, Prod.mk.injEq] at h; obtain ⟨_, rfl⟩ := h; rfl
    · simp only [Option.some.injEq, Prod.mk.injEq] at h; obtain ⟨_, rfl⟩ := h; rfl
    · simp at h
  · simp at h
theorem exec_builtin2 {a : Act} {o : Oper} {c : Call} {b : Builtin} (ho : o.op = .call c) (hc : c.callee = .builtin b) {dT sT : TypeId} (hT : c.argTypes.toList = [dT, sT]) {x y : Value} (ha : c.args.toList.map a.eval = [x, y]) (w : World) :
    ∃ consts, (execOp a.eval o).run P w = (builtin b #[dT, sT] o.type consts #[x, y]).run P w := by
  have h1 : c.argTypes = #[dT, sT] := by rw [← Array.toList_inj, hT]
  have h2 : c.args.map a.eval = #[x, y] := by rw [← Array.toList_inj, Array.toList_map, ha]
  refine ⟨c.args.map fun | .const _ => true | _ => false, ?_⟩
  unfold execOp
  simp only [ho, resolve, hc, h2, h1, Sem.run_bind, Sem.run_pure, Result.andThen_ok, invoke]
  rfl
theorem zero_size {t : TypeId} {i : TypeInfo} {z : V} (μ : Mu) (hi : P.info? t = some i) (hz : zeroV P t = some z) : ∃ zz, i.zero = some zz ∧ z.den μ = zz := by
  unfold zeroV at hz
  rw [hi] at hz
  dsimp only at hz
  split at hz
  · rename_i v hv
    exact ⟨v, hv, ofZero_den hz⟩
  · cases hz
theorem apV_old {z r new : V} {C n s : Nat} {μ : Mu} (h : apV z (szm C s) 0 (nilV z) (szm n s) new = some r) : ((nilV z).den μ).cells.toList.length = 0 := by
  unfold apV at h
  split at h
  · simp only [nilV]; rw [cells_ints]; simp
  · simp only [nilV]; rw [cells_ints]; simp
  · simp only [nilV]; rw [cells_bools]; simp
  · cases h
theorem apV_size {z r old new : V} {C l n s : Nat} {μ : Mu} (h : apV z (szm C s) (szm l s) old (szm n s) new = some r) (hs : zsz z = s) : (z.den μ).cells.size = s := by
  unfold apV at h
  split at h
  · rw [cells_ints]; simp; exact hs
  · simp [V.den, Value.cells]; exact hs
  · simp [V.den, Value.cells]; exact hs
  · cases h
theorem app_sound {C : Ctx} (hB : Under C.B C.w0) {o : Oper} {c : Call} {K : St → Prop} {s : St} {μ : Mu} {a : Act} {w : World} {Q : Exit → Act → World → Prop} (hop : o.op = .call c) (hc : c.callee = .builtin .append)
    (h : appA P o c K s) (hr : RelA C μ s a w) : o.wp P a w (After C K) Q := by
  obtain ⟨hr0, ha0⟩ := hr.all μ (Agree.refl _ _)
  unfold appA at h
  split at h
  · rename_i dT sT dv id2 off2 n cap2 hT hvs
    have hargs : c.args.toList.map a.eval = [dv.den μ, .slice (some ⟨(μ id2).1, (μ id2).2 + off2, none⟩) n cap2] := by
      rw [ha0, evs_den (μ := μ) hvs]; simp [V.den]
    split at h
    · rename_i e e2 c2 hu hu2 hc2
      split at h
      · rename_i i z hi hz
        split at h
        · rename_i g new hrd
          obtain ⟨hg, hk⟩ := gd_true h
          clear h
          simp only [Bool.and_eq_true] at hg
          obtain ⟨⟨⟨⟨hg, hsz⟩, hby⟩, hrow⟩, hzs⟩ := hg
          subst hg
          have hsz := bltT.1 hsz; have hby := bleT.1 hby; have hzs := beqT.1 hzs
          obtain ⟨nl, ncell⟩ := row_cells hr0 hc2 hrd
          rw [szm_eq] at nl
          have hsrc : Src P i.size sT (.slice (some ⟨(μ id2).1, (μ id2).2 + off2, none⟩) n cap2) n (new.den μ).cells.toList w :=
            Src.ofSlice (P := P) w hu2 _ n cap2 _ nl ncell (isRow_one hrow μ)
          obtain ⟨zz, hiz, hzd⟩ := zero_size μ hi hz
          obtain ⟨consts, hex⟩ := exec_builtin2 (P := P) hop hc hT hargs w
          split at hk
          · -- onto nil
            split at hk
            · rename_i hn1
              have hn1 := bltT.1 hn1
              obtain ⟨hg, h⟩ := gd_true hk
              have hn2 := bleT.1 hg
              have hq : n ≤ grownCap w (0 + n) 0 e := by unfold grownCap; simp only [Question.cut]; omega
              have h := h (grownCap w (0 + n) 0 e) hq
              split at h
              · rename_i r hrr
                have hnil := apV_old (μ := μ) hrr
                have hrr' : apV z (szm (grownCap w (0 + n) 0 e) i.size) (szm 0 i.size) (nilV z) (szm n i.size) new = some r := by
                  rw [show szm 0 i.size = 0 by rw [szm_eq, Nat.zero_mul]]; exact hrr
                have hzz := apV_size (μ := μ) hrr' hzs
                have hcells := apV_cells (μ := μ) hsz hrr' hzz (by rw [hnil, Nat.zero_mul]) nl (by omega)
                have hrun := run_append_grow_src (P := P) w dT sT o.type e i zz hu hi hiz none 0 0 [] (by simp [Builtin.firstCells]) _ n _ hsrc (by omega) (by omega) (growslice_fits (by omega) (by
                  have : (0 + n) * i.bytes ≤ 1048576 * 4096 := Nat.mul_le_mul (by omega) hby
                  omega))
                obtain ⟨μ1, h1⟩ := (hr.drew).alloc2 hB o.dst (c := r) (cs := (r.den μ).cells) (t := e) (apV_own hrr).2 (fun μ' _ => by rw [isRow_den (apV_own hrr).1 μ μ']) (v := .sl s.mem.length 0 n (grownCap w (0 + n) 0 e)) (val := .slice (some ⟨w.drew.heap.size, 0, none⟩) n (grownCap w (0 + n) 0 e)) (fun μ' h' => by simp [V.den, h'])
                unfold Oper.wp
                rw [hex]
                have hz0 : ((nilV z).den μ).cells.toList = [] := List.eq_nil_of_length_eq_zero hnil
                rw [hz0, hzd, List.nil_append] at hcells
                rw [hcells] at h1
                simp only [builtin, V.den, Sem.run_bind, hrun, Result.andThen_ok, Sem.run_pure]
                exact ⟨_, μ1, by simpa using h, by simpa [World.alloc] using h1⟩
              · exact h.elim
            · rename_i hn1
              have hn0 : n = 0 := by
                rcases Nat.eq_zero_or_pos n with h | h
                · exact h
                · rw [bltT.2 h] at hn1; cases hn1
              subst hn0
              have hrun : (Builtin.append_ #[dT, sT] o.type #[.slice none 0 0, .slice (some ⟨(μ id2).1, (μ id2).2 + off2, none⟩) 0 cap2]).run P w = .ok (.slice none 0 0) w := by
                have := hsrc.cells
                simp [Builtin.append_, run_underlying hu, run_underlying hu2, sizeOf, typeInfo, hi, hsrc.len, this]
              unfold Oper.wp
              rw [hex]
              simp only [builtin, V.den, Sem.run_bind, hrun, Result.andThen_ok, Sem.run_pure]
              exact ⟨_, μ, hk, hr.put o.dst (v := .snil) (fun μ' _ => by simp [V.den])⟩
          · -- onto a slice
            rename_i id off len cap
            split at hk
            · rename_i c1 hc1
              split at hk
              · rename_i hroom
                have hroom := bleT.1 hroom
                split at hk
                · rename_i g' c' hw
                  obtain ⟨hg', h⟩ := gd_true hk
                  subst hg'
                  obtain ⟨cells, hcells, hst⟩ := run_storeW hr hc1 hw (fun μ' _ => isRow_den hrow μ μ')
                  have hbase := hr.store hc1 hw hcells
                  have hrun : (Builtin.append_ #[dT, sT] o.type #[.slice (some ⟨(μ id).1, (μ id).2 + off, none⟩) len cap, .slice (some ⟨(μ id2).1, (μ id2).2 + off2, none⟩) n cap2]).run P w = .ok (.slice (some ⟨(μ id).1, (μ id).2 + off, none⟩) (len + n) cap) (w.setRow (μ id).1 cells) := by
                    have hadd : (⟨(μ id).1, (μ id).2 + off, none⟩ : Addr).add (len * i.size) = ⟨(μ id).1, (μ id).2 + (off + szm len i.size), none⟩ := by
                      rw [Addr.add_lit, szm_eq, Nat.add_assoc]
                    simp [Builtin.append_, run_underlying hu, run_underlying hu2, sizeOf, typeInfo, hi, hsrc.len, hroom, hsrc.cells, hadd]
                    rw [hst]
                    simp
                  unfold Oper.wp
                  rw [hex]
                  simp only [builtin, V.den, Sem.run_bind, hrun, Result.andThen_ok, Sem.run_pure]
                  exact ⟨_, μ, hk, hbase.put o.dst (v := .sl id off (len + n) cap) (fun μ' hμ => by
                    have hid := (List.getElem?_eq_some_iff.1 hc1).1
                    simp only [V.den, hμ id (by simpa using hid)])⟩
                · exact hk.elim
              · rename_i hroom
                have hroom : ¬ len + n ≤ cap := fun hh => by rw [bleT.2 hh] at hroom; cases hroom
                split at hk
                · rename_i g' old hrd'
                  obtain ⟨hg', h⟩ := gd_true hk
                  simp only [Bool.and_eq_true] at hg'
                  obtain ⟨hg1, hg2⟩ := hg'
                  subst hg1
                  have hn2 := bleT.1 hg2
                  have hq : len + n ≤ grownCap w (len + n) cap e := by unfold grownCap; simp only [Question.cut]; omega
                  have h := h (grownCap w (len + n) cap e) hq
                  split at h
                  · rename_i r hrr
                    obtain ⟨ol, ocell⟩ := row_cells hr0 hc1 hrd'
                    rw [szm_eq] at ol
                    have hzz := apV_size (μ := μ) hrr hzs
                    have hcells := apV_cells (μ := μ) hsz hrr hzz ol nl hq
                    have hold := run_firstCells_some (P := P) w.drew i.size len ⟨(μ id).1, (μ id).2 + off, none⟩ len cap (old.den μ).cells.toList ol (by simpa using ocell)
                    have hrun := run_append_grow_src (P := P) w dT sT o.type e i zz hu hi hiz (some ⟨(μ id).1, (μ id).2 + off, none⟩) len cap _ hold _ n _ hsrc (by omega) (by omega) (growslice_fits (by omega) (by
                      have : (len + n) * i.bytes ≤ 1048576 * 4096 := Nat.mul_le_mul hn2 hby
                      omega))
                    obtain ⟨μ1, h1⟩ := (hr.drew).alloc2 hB o.dst (c := r) (cs := (r.den μ).cells) (t := e) (apV_own hrr).2 (fun μ' _ => by rw [isRow_den (apV_own hrr).1 μ μ']) (v := .sl s.mem.length 0 (len + n) (grownCap w (len + n) cap e)) (val := .slice (some ⟨w.drew.heap.size, 0, none⟩) (len + n) (grownCap w (len + n) cap e)) (fun μ' h' => by simp [V.den, h'])
                    unfold Oper.wp
                    rw [hex]
                    rw [hzd] at hcells
                    rw [hcells] at h1
                    simp only [builtin, V.den, Sem.run_bind, hrun, Result.andThen_ok, Sem.run_pure]
                    exact ⟨_, μ1, h, by simpa [World.alloc] using h1⟩
                  · exact h.elim
                · exact hk.elim
            · exact hk.elim
          · exact hk.elim
        · exact h.elim
      · exact h.elim
    · exact h.elim
  · -- of nil
    rename_i dT sT dv hT hvs
    have hargs : c.args.toList.map a.eval = [dv.den μ, .slice none 0 0] := by
      rw [ha0, evs_den (μ := μ) hvs]; simp [V.den]
    split at h
    · rename_i e e2 hu hu2
      have hsrc : ∀ (size : Nat), Src P size sT (.slice none 0 0) 0 [] w := fun size => Src.ofNil (P := P) w hu2 0
      obtain ⟨consts, hex⟩ := exec_builtin2 (P := P) hop hc hT hargs w
      split at h
      · rename_i i hi
        have hrun : (Builtin.append_ #[dT, sT] o.type #[.slice none 0 0, .slice none 0 0]).run P w = .ok (.slice none 0 0) w := by
          have := (hsrc i.size).cells
          simp [Builtin.append_, run_underlying hu, run_underlying hu2, sizeOf, typeInfo, hi, (hsrc i.size).len, this]
        unfold Oper.wp
        rw [hex]
        simp only [builtin, V.den, Sem.run_bind, hrun, Result.andThen_ok, Sem.run_pure]
        exact ⟨_, μ, h, hr.put o.dst (v := .snil) (fun μ' _ => by simp [V.den])⟩
      · rename_i i id off len cap hi
        split at h
        · rename_i c1 hc1
          obtain ⟨hg, h⟩ := gd_true h
          have hg := bleT.1 hg
          have hrun : (Builtin.append_ #[dT, sT] o.type #[.slice (some ⟨(μ id).1, (μ id).2 + off, none⟩) len cap, .slice none 0 0]).run P w = .ok (.slice (some ⟨(μ id).1, (μ id).2 + off, none⟩) len cap) w := by
            have := (hsrc i.size).cells
            simp [Builtin.append_, run_underlying hu, run_underlying hu2, sizeOf, typeInfo, hi, (hsrc i.size).len, this, hg, storeCells]
          unfold Oper.wp
          rw [hex]
          simp only [builtin, V.den, Sem.run_bind, hrun, Result.andThen_ok, Sem.run_pure]
          exact ⟨_, μ, h, hr.put o.dst (v := .sl id off len cap) (fun μ' hμ => by
            have hid := (List.getElem?_eq_some_iff.1 hc1).1
            simp only [V.den, hμ id hid])⟩
        · exact h.elim
      · exact h.elim
    · exact h.elim
  · exact h.elim
theorem cop_sound {C : Ctx} {o : Oper} {c : Call} {K : St → Prop} {s : St} {μ : Mu} {a : Act} {w : World} {Q : Exit → Act → World → Prop} (hop : o.op = .call c) (hc : c.callee = .builtin .copy)
    (h : copA P o c K s) (hr : RelA C μ s a w) : o.wp P a w (After C K) Q := by
  obtain ⟨hr0, ha0⟩ := hr.all μ (Agree.refl _ _)
  unfold copA at h
  split at h
  · rename_i dT sT id off len cap id2 off2 len2 cap2 hT hvs
    have hargs : c.args.toList.map a.eval = [.slice (some ⟨(μ id).1, (μ id).2 + off, none⟩) len cap, .slice (some ⟨(μ id2).1, (μ id2).2 + off2, none⟩) len2 cap2] := by
      rw [ha0, evs_den (μ := μ) hvs]; simp [V.den]
    split at h
    · rename_i e e2 cd cs hu hu2 hcd hcs
      split at h
      · rename_i i hi
        split at h
        · rename_i g v hrd
          split at h
          · rename_i g' c' hw
            obtain ⟨hg, hk⟩ := gd_true h
            clear h
            simp only [Bool.and_eq_true] at hg
            obtain ⟨⟨hg, hg'⟩, hrow⟩ := hg
            subst hg; subst hg'
            obtain ⟨nl, ncell⟩ := row_cells hr0 hcs hrd
            obtain ⟨cells, hcells, hst⟩ := run_storeW hr hcd hw (fun μ' _ => isRow_den hrow μ μ')
            obtain ⟨consts, hex⟩ := exec_builtin2 (P := P) hop hc hT hargs w
            have hfc := run_firstCells_some (P := P) w i.size (Nat.min len2 len) ⟨(μ id2).1, (μ id2).2 + off2, none⟩ len2 cap2 (v.den μ).cells.toList nl ncell
            have hbase := hr.store hcd hw hcells
            have hrun : (Builtin.copy_ #[dT, sT] o.type #[.slice (some ⟨(μ id).1, (μ id).2 + off, none⟩) len cap, .slice (some ⟨(μ id2).1, (μ id2).2 + off2, none⟩) len2 cap2]).run P w = .ok (goInt (Nat.min len2 len)) (w.setRow (μ id).1 cells) := by
              simp [Builtin.copy_, run_underlying hu, Builtin.lenOf, sizeOf, typeInfo, hi, hfc]
              rw [hst]
              simp
            unfold Oper.wp
            rw [hex]
            simp only [builtin, Sem.run_bind, hrun, Result.andThen_ok, Sem.run_pure]
            exact ⟨_, μ, hk, hbase.put o.dst (fun μ' _ => by simp [V.den, goInt])⟩
          · exact h.elim
        · exact h.elim
      · exact h.elim
    · exact h.elim
  · exact h.elim

theorem aop_sound (hF : OrcOK P F) (hG : GOrcOK P G) {C : Ctx} (hB : Under C.B C.w0) {o : Oper} {K : St → Prop} {s : St} {μ : Mu} {a : Act} {w : World} {Q : Exit → Act → World → Prop}
    (h : aop P F G o K s) (hr : RelA C μ s a w) : o.wp P a w (After C K) Q := by
  obtain ⟨hr0, ha0⟩ := hr.all μ (Agree.refl _ _)
  have hev : ∀ {x : Operand} {v : V}, ev s.tmps x = some v → ∀ μ', Agree s.mem.length μ μ' → a.eval x = v.den μ' := fun {x v} hx μ' hμ => by
    obtain ⟨_, e⟩ := hr.all μ' hμ
    rw [e]; exact ev_den hx
  unfold aop at h
  split at h
  · -- alloc
    rename_i ty hop
    split at h
    · rename_i z hz
      have hrun := run_zeroV (μ := μ) hz w
      obtain ⟨μ1, h1⟩ := hr.alloc hB o.dst (c := z) (cs := (z.den μ).cells) (t := ty) (zeroV_own hz) (fun μ' hμ => by
        have := run_zeroV (μ := μ') hz w
        rw [hrun] at this
        simp only [Result.ok.injEq] at this
        rw [this.1])
      unfold Oper.wp execOp
      simp only [hop, Instr.alloc, Sem.run_bind, hrun, Result.andThen_ok, newVar, newRow, newObj, Sem.run, Sem.run_pure]
      exact ⟨_, μ1, h, h1⟩
    · exact h.elim
  · -- box
    rename_i ty x hop
    split at h
    · rename_i v hv
      split at h
      · rename_i ho
        obtain ⟨μ1, h1⟩ := hr.alloc hB o.dst (c := v) (cs := (a.eval x).cells) (t := ty) ho (fun μ' hμ => by rw [hev hv μ' hμ])
        unfold Oper.wp execOp
        simp only [hop, Instr.box, Sem.run_bind, newVar, newRow, newObj, Sem.run, Sem.run_pure, Result.andThen_ok]
        exact ⟨_, μ1, h, h1⟩
      · exact h.elim
    · exact h.elim
  · -- store
    rename_i ty x y hop
    unfold stA at h
    split at h
    · rename_i id off v k hx hy hk
      split at h
      · rename_i c hc
        split at h
        · rename_i g c' hw
          obtain ⟨hg, h⟩ := gd_true h
          subst hg
          obtain ⟨cs, hcs, hrun⟩ := run_storeVar hr hc hk hw (fun μ' hμ => by rw [← hev hy μ' hμ, hev hy μ (Agree.refl _ _)])
          have e1 := hev hx μ (Agree.refl _ _)
          have e2 := hev hy μ (Agree.refl _ _)
          simp only [V.den] at e1
          have hbase : RelA C μ ⟨s.tmps, s.mem.set id c'⟩ a (w.setRow (μ id).1 cs) := by
            refine ⟨fun μ' hμ => ?_, hr.ext, by simpa using hr.len⟩
            simp only [List.length_set] at hμ
            obtain ⟨h1, h2⟩ := hr.all μ' hμ
            have hid := (List.getElem?_eq_some_iff.1 hc).1
            have := h1.store hc (wr_own hw).1 (wr_own hw).2 (hcs μ' hμ)
            rw [hμ id hid] at this
            exact ⟨this, h2⟩
          unfold Oper.wp execOp
          simp only [hop, e1, e2, Instr.storeAt, Instr.sureAddr, Sem.run_bind, Sem.run_pure, Result.andThen_ok, hrun]
          exact ⟨_, μ, h, hbase.put o.dst (fun _ _ => by simp [V.un, V.den, V.dens, undef])⟩
        · exact h.elim
      · exact h.elim
    · exact h.elim
  · -- buildSlice
    rename_i ty len ps hop
    split at h
    · rename_i vs hvs
      split at h
      · rename_i g c hc
        obtain ⟨hg, h⟩ := gd_true h
        subst hg
        have hps : ∀ μ', Agree s.mem.length μ μ' → (ps.map fun p => (p.1, a.eval p.2)) = (vs.map fun p => (p.1, p.2.den μ')).toArray := fun μ' hμ => by
          rw [(hr.all μ' hμ).2, ← Array.toList_inj, Array.toList_map]
          exact evParts_den hvs
        obtain ⟨e, he⟩ := run_bslV (μ := μ) hc w
        obtain ⟨μ1, h1⟩ := hr.alloc2 hB o.dst (c := c) (cs := (c.den μ).cells) (t := e) (bslV_own hc rfl) (fun μ' hμ => by
          obtain ⟨e', he'⟩ := run_bslV (μ := μ') hc w
          rw [← hps μ' hμ, hps μ (Agree.refl _ _), he] at he'
          simp only [Result.ok.injEq, true_and, World.mk.injEq, Array.push_eq_push, Obj.cells.injEq] at he'
          exact he'.1.1.1) (v := .sl s.mem.length 0 len len) (val := .slice (some ⟨w.heap.size, 0, none⟩) len len) (fun μ' h' => by simp [V.den, h'])
        unfold Oper.wp execOp
        simp only [hop, hps μ (Agree.refl _ _), Sem.run_bind, he, Result.andThen_ok, Sem.run_pure]
        exact ⟨_, μ1, h, h1⟩
      · exact h.elim
    · exact h.elim
  · -- makeSlice
    rename_i ty x y hop
    unfold mkA at h
    split at h
    · rename_i k1 n k2 m hx hy
      split at h
      · rename_i g b hb
        obtain ⟨hg, hk⟩ := gd_true h
        clear h
        simp only [Bool.and_eq_true, decide_eq_true_eq] at hg
        obtain ⟨hg, hn⟩ := hg
        subst hg
        obtain ⟨e, he⟩ := run_mslV (μ := μ) hb hn k1 k2 w
        have e1 := hev hx μ (Agree.refl _ _)
        have e2 := hev hy μ (Agree.refl _ _)
        simp only [V.den] at e1 e2
        obtain ⟨μ1, h1⟩ := hr.alloc2 hB o.dst (c := b) (cs := (b.den μ).cells) (t := e) (mslV_own hb) (fun μ' hμ => by
          obtain ⟨e', he'⟩ := run_mslV (μ := μ') hb hn k1 k2 w
          rw [he] at he'
          simp only [Result.ok.injEq, true_and, World.mk.injEq, Array.push_eq_push, Obj.cells.injEq] at he'
          exact he'.1.1.1) (v := .sl s.mem.length 0 n.toNat m.toNat) (val := .slice (some ⟨w.heap.size, 0, none⟩) n.toNat m.toNat) (fun μ' h' => by simp [V.den, h'])
        unfold Oper.wp execOp
        simp only [hop, e1, e2, Sem.run_bind, he, Result.andThen_ok, Sem.run_pure]
        exact ⟨_, μ1, hk, h1⟩
      · exact h.elim
    · exact h.elim
  · -- quiet, or a call that touches memory
    split at h
    · rename_i g v hv
      obtain ⟨hg, h⟩ := gd_true h
      subst hg
      have hq : ∀ μ', Agree s.mem.length μ μ' → Quiet1 P a o w (v.den μ') (∀ μ μ', Agree s.mem.length μ μ' → v.den μ' = v.den μ) := fun μ' hμ => by
        obtain ⟨h1, h2⟩ := hr.all μ' hμ
        rw [h2]; exact quiet_sound hF hB h1 hv
      have h0 := hq μ (Agree.refl _ _)
      unfold Oper.wp
      rcases h0 with h0 | ⟨f, args, hst0, h0, hc⟩
      · rw [h0]
        refine ⟨_, μ, h, hr.put o.dst fun μ' hμ => ?_⟩
        rcases hq μ' hμ with h1 | ⟨f, args, _, h1, _⟩
        · rw [h0] at h1; simpa using h1
        · rw [h0] at h1; simp at h1
      · rw [h0]
        have hst : ∀ μ', Agree s.mem.length μ μ' → v.den μ = v.den μ' := fun μ' hμ => (hst0 μ μ' hμ).symm
        refine hc.mono fun e w' ⟨he, hb⟩ => ?_
        subst he
        have hg : RelA C μ s a w' := ⟨fun μ' hμ => ⟨(hr.all μ' hμ).1.grow ((hr.all μ' hμ).1.size hB) hb, (hr.all μ' hμ).2⟩, hr.ext, hr.len⟩
        exact ⟨_, μ, h, hg.put o.dst hst⟩
    · split at h
      · rename_i c hop
        unfold callA at h
        split at h
        · rename_i f hc
          split at h
          · rename_i vs hvs
            obtain ⟨h1, h2⟩ := hG f vs s.mem _ h C μ w (vs.map (V.den μ)).toArray hB ⟨fun μ' hμ => (hr.all μ' hμ).1, hr.ext, hr.len⟩ (fun μ' hμ => by
              have e1 := evs_den (μ := μ) hvs
              have e2 := evs_den (μ := μ') hvs
              rw [← ha0] at e1
              rw [← (hr.all μ' hμ).2] at e2
              rw [← e1, e2])
            unfold Oper.wp
            rw [ha0, exec_call hop hc hvs, h1]
            refine h2.mono fun e w' ⟨v, m', μ1, val, hK, he, hl, hag, hrm, hval⟩ => ?_
            subst he
            rw [← ha0]
            have hnew : RelA C μ1 ⟨s.tmps, m'⟩ a w' := ⟨fun μ' hμ => ⟨hrm.all μ' hμ, (hr.all μ' (hag.trans (hμ.mono hl))).2⟩, hrm.ext, hrm.len⟩
            exact ⟨_, μ1, hK, hnew.put o.dst hval⟩
          · exact h.elim
        · rename_i hc
          exact app_sound hB hop hc h hr
        · rename_i hc
          exact cop_sound hop hc h hr
        · exact h.elim
      · exact h.elim

end
end Go.Ev
