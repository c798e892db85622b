/-
  A region that draws its order comes to what the order of the text comes to. Conditions: the Bool 'drawOK' of the region, which a reckoning shows.
-/
import Derived.Test.YtbnclikjbnfodaaFvE
namespace Go.Ev
open RowKit (Below)

/-! ### What an operation looks at -/
section
variable {P : Program} {F : Orc} {G : GOrc}

theorem ev_set {t : List V} {d : Nat} {v : V} {x : Operand} (h : x ≠ .tmp d) : ev (t.set d v) x = ev t x := by
  cases x with
  | tmp i =>
    have : d ≠ i := fun e => h (e ▸ rfl)
    simp [ev, List.getD_eq_getElem?_getD, List.getElem?_set_ne this]
  | _ => rfl

theorem evs_set {t : List V} {d : Nat} {v : V} : ∀ {l : List Operand}, (∀ x ∈ l, x ≠ .tmp d) → evs (t.set d v) l = evs t l
  | [], _ => rfl
  | x :: l, h => by simp only [evs, ev_set (h x (by simp)), evs_set (l := l) fun y hy => h y (by simp [hy])]

theorem evParts_set {t : List V} {d : Nat} {v : V} : ∀ {l : List (Nat × Operand)}, (∀ p ∈ l, p.2 ≠ .tmp d) → evParts (t.set d v) l = evParts t l
  | [], _ => rfl
  | (i, x) :: l, h => by simp only [evParts, ev_set (h (i, x) (by simp)), evParts_set (l := l) fun y hy => h y (by simp [hy])]

theorem opv_set {m t : List V} {d : Nat} {v : V} {op : Op} (h : ∀ x ∈ op.operands, x ≠ .tmp d) : opv P F m (t.set d v) op = opv P F m t op := by
  cases op <;> simp only [opv] <;> try rfl
  case move x | assign x | load ty x | nilCheck x | unOp u ty x | convert s ty x | fieldAddr ty x f | field ty x f | extract x i =>
    rw [ev_set (h x (by simp [Op.operands]))]
  case pick c a b =>
    rw [ev_set (h c (by simp [Op.operands])), ev_set (h a (by simp [Op.operands])), ev_set (h b (by simp [Op.operands]))]
  case binOp op ty x y yt | indexAddr ty x y | index ty x y =>
    rw [ev_set (h x (by simp [Op.operands])), ev_set (h y (by simp [Op.operands]))]
  case build ty ps =>
    rw [evParts_set fun p hp => h p.2 (by simp [Op.operands]; exact ⟨p.1, by simpa using hp⟩)]
  case slice ty x lo hi mx =>
    have hO : ∀ q, (∀ l, q = some l → l ≠ .tmp d) → evO (t.set d v) q = evO t q := by
      intro q hq
      cases q with
      | none => rfl
      | some l => simp only [evO, ev_set (hq l rfl)]
    rw [ev_set (h x (by simp [Op.operands])), hO lo (fun l e => h l (by simp [Op.operands, e])), hO hi (fun l e => h l (by simp [Op.operands, e]))]
  case call c =>
    have ha : ∀ x ∈ c.args.toList, x ≠ .tmp d := fun x hx => h x (by simp only [Op.operands, Call.operands, Array.mem_append]; exact .inr (by simpa using hx))
    rw [evs_set ha]
    split
    · rfl
    · split
      · rename_i ty x h1 hx
        rw [ev_set (ha x (by simp [hx]))]
      · rfl
    · split
      · rename_i x y hx
        rw [ev_set (ha x (by simp [hx])), ev_set (ha y (by simp [hx]))]
      · rfl
    · rfl

theorem loadV_grow {m : List V} {z : V} {ty : TypeId} {v : V} {r : Bool × V} (h : loadV P m ty v = some r) : loadV P (m ++ [z]) ty v = some r := by
  have at_ : ∀ {id off : Nat}, (match m[id]?, tyk P ty with | some c, some k => rdT P ty (strip c) off k | _, _ => none) = some r →
      (match (m ++ [z])[id]?, tyk P ty with | some c, some k => rdT P ty (strip c) off k | _, _ => none) = some r := by
    intro id off h
    cases hm : m[id]? with
    | none => simp [hm] at h
    | some c =>
      have hlt := (List.getElem?_eq_some_iff.1 hm).1
      rw [List.getElem?_append, if_pos hlt, hm]
      rw [hm] at h
      exact h
  unfold loadV at h ⊢
  split at h
  · exact at_ h
  · rename_i g off
    cases hf : findG g m 0 with
    | none => rw [hf] at h; cases h
    | some id =>
      rw [hf] at h
      rw [findG_grow hf]
      exact at_ h
  · cases h
theorem opv_grow (hF : OrcOK P F) {m t : List V} {z : V} {op : Op} {r : Bool × V} (h : opv P F m t op = some r) : opv P F (m ++ [z]) t op = some r := by
  cases op <;> simp only [opv] at h ⊢ <;> try exact h
  case load ty x =>
    split at h
    · exact loadV_grow h
    · simp at h
  case call c =>
    split at h
    · split at h
      · exact hF.2 _ _ _ _ _ h
      · simp at h
    · exact h
    · exact h
    · simp at h

def effOp : Op → Bool
  | .alloc _ | .box _ _ | .store _ _ _ | .buildSlice _ _ _ | .makeSlice _ _ _ => true
  | .call c => match c.callee with
    | .builtin .append | .builtin .copy => true
    | _ => false
  | _ => false

/-- The value that a quiet operation leaves. -/
def qv (P : Program) (F : Orc) (ops : Array Oper) (o : Oper) (m t : List V) : Option V :=
  match o.guard with
  | none => match opv P F m t o.op with
    | some (true, v) => some v
    | _ => none
  | some (j, want) => match yV ops t j with
    | some (_, b) => if b = want then (match opv P F m t o.op with
      | some (true, v) => some v
      | _ => none) else some V.un
    | none => some V.un

theorem aop_quiet {o : Oper} (ho : effOp o.op = false) {K : St → Prop} {s : St} : aop P F noG o K s ↔ ∃ v, opv P F s.mem s.tmps o.op = some (true, v) ∧ K (s.put o.dst v) := by
  unfold aop
  split
  · rename_i h; rw [h] at ho; simp [effOp] at ho
  · rename_i h; rw [h] at ho; simp [effOp] at ho
  · rename_i h; rw [h] at ho; simp [effOp] at ho
  · rename_i h; rw [h] at ho; simp [effOp] at ho
  · rename_i h; rw [h] at ho; simp [effOp] at ho
  · split
    · rename_i g v hv
      cases g <;> simp [gd, hv]
    · rename_i hv
      split
      · rename_i c hc
        rw [hc] at ho
        unfold callA
        split
        · split <;> simp [noG, hv]
        · rename_i hb; simp [effOp, hb] at ho
        · rename_i hb; simp [effOp, hb] at ho
        · simp [hv]
      · simp [hv]

theorem yV_spec {ops : Array Oper} {t : List V} {j : Nat} {d : Tmp} {b : Bool} (h : yV ops t j = some (d, b)) : t[d]? = some (.bool b) ∧ (ops[j]?).bind (·.dst) = some d := by
  unfold yV at h
  split at h
  · rename_i o ho
    split at h
    · rename_i d' hd
      split at h
      · rename_i b' hb
        simp only [Option.some.injEq, Prod.mk.injEq] at h
        obtain ⟨rfl, rfl⟩ := h
        exact ⟨hb, by simp [ho, hd]⟩
      · simp at h
    · simp at h
  · simp at h

theorem put_same {s : St} {d : Tmp} {v : V} (h : s.tmps[d]? = some v) : s.put (some d) v = s := by
  simp [St.put, list_set_same h]

theorem un_iff {K : V → Prop} : K V.un ↔ ∃ v, some V.un = some v ∧ K v := ⟨fun h => ⟨_, rfl, h⟩, fun ⟨v, h1, h2⟩ => by cases h1; exact h2⟩

theorem agop_quiet {ops : Array Oper} {o : Oper} (ho : effOp o.op = false) {K : St → Prop} {s : St} : agop P F noG ops o K s ↔ ∃ v, qv P F ops o s.mem s.tmps = some v ∧ K (s.put o.dst v) := by
  unfold agop qv
  cases hg : o.guard with
  | none =>
    simp only
    rw [aop_quiet ho]
    constructor
    · rintro ⟨v, h1, h2⟩; exact ⟨v, by simp [h1], h2⟩
    · rintro ⟨v, h1, h2⟩
      split at h1
      · simp only [Option.some.injEq] at h1; subst h1; exact ⟨_, ‹_›, h2⟩
      · simp at h1
  | some p =>
    obtain ⟨j, want⟩ := p
    simp only
    cases hy : yV ops s.tmps j with
    | none => exact un_iff (K := fun v => K (s.put o.dst v))
    | some p =>
      obtain ⟨d, b⟩ := p
      have hp := put_same (yV_spec hy).1
      have key : (∃ v, (match opv P F s.mem s.tmps o.op with | some (true, v) => some v | _ => none) = some v ∧ K (s.put o.dst v)) ↔ ∃ v, opv P F s.mem s.tmps o.op = some (true, v) ∧ K (s.put o.dst v) := by
        constructor
        · rintro ⟨v, h1, h2⟩
          split at h1
          · simp only [Option.some.injEq] at h1; subst h1; exact ⟨_, ‹_›, h2⟩
          · simp at h1
        · rintro ⟨v, h1, h2⟩; exact ⟨v, by simp [h1], h2⟩
      cases b <;> cases want <;> simp only [hp, aop_quiet ho, if_true, key, Bool.false_eq_true, Bool.true_eq_false, if_false] <;> exact un_iff (K := fun v => K (s.put o.dst v))

theorem qv_grow (hF : OrcOK P F) {ops : Array Oper} {o : Oper} {m t : List V} {z v : V} (h : qv P F ops o m t = some v) : qv P F ops o (m ++ [z]) t = some v := by
  have key : ∀ {v}, (match opv P F m t o.op with | some (true, v) => some v | _ => none) = some v → (match opv P F (m ++ [z]) t o.op with | some (true, v) => some v | _ => none) = some v := by
    intro v h
    split at h
    · rename_i hv
      rw [opv_grow hF hv]; exact h
    · simp at h
  unfold qv at h ⊢
  split at h
  · exact key h
  · split at h
    · split at h
      · rename_i e; simp only [e, if_true]; exact key h
      · rename_i e; simp only [e, if_false]; exact h
    · exact h

/-- What an operation that touches memory leaves: the memory, and its value. -/
def effV (P : Program) (m t : List V) : Op → Option (List V × V)
  | .alloc ty => match zeroV P ty with
    | some z => some (m ++ [z], .ptr m.length 0)
    | none => none
  | .box _ x => match ev t x with
    | some v => match roOf v with
      | none => some (m ++ [v], .ptr m.length 0)
      | some _ => none
    | none => none
  | .store ty a x => match ev t a, ev t x, tyk P ty with
    | some (.ptr id off), some v, some k => match m[id]? with
      | some c => match wr c off k v with
        | some (true, c') => some (m.set id c', V.un)
        | _ => none
      | none => none
    | _, _, _ => none
  | _ => none
def isNew : Oper → Bool
  | ⟨_, .alloc _, _, _, _, none⟩ => true
  | ⟨_, .box _ _, _, _, _, none⟩ => true
  | _ => false
def isEff : Oper → Bool
  | ⟨_, .alloc _, _, _, _, none⟩ => true
  | ⟨_, .box _ _, _, _, _, none⟩ => true
  | ⟨_, .store _ _ _, _, _, _, none⟩ => true
  | _ => false
/-- It does not look at memory. -/
def stillOp : Op → Bool
  | .load _ _ | .call _ => false
  | _ => true
theorem opv_still {m m' t : List V} {op : Op} (h : stillOp op = true) : opv P F m t op = opv P F m' t op := by
  cases op <;> first | rfl | simp [stillOp] at h
theorem qv_still {ops : Array Oper} {o : Oper} {m m' t : List V} (h : stillOp o.op = true) : qv P F ops o m t = qv P F ops o m' t := by
  unfold qv
  rw [opv_still (m := m) (m' := m') h]
theorem agop_eff {ops : Array Oper} {o : Oper} (ho : isEff o = true) {K : St → Prop} {s : St} : agop P F noG ops o K s ↔ ∃ m v, effV P s.mem s.tmps o.op = some (m, v) ∧ K (St.put ⟨s.tmps, m⟩ o.dst v) := by
  have no : ∀ {R : List V → V → Prop}, False ↔ ∃ m v, (none : Option (List V × V)) = some (m, v) ∧ R m v := ⟨fun h => h.elim, fun ⟨_, _, e, _⟩ => by cases e⟩
  have yes : ∀ {R : List V → V → Prop} {m0 : List V} {v0 : V}, R m0 v0 ↔ ∃ m v, some (m0, v0) = some (m, v) ∧ R m v := ⟨fun h => ⟨_, _, rfl, h⟩, fun ⟨_, _, e, h⟩ => by cases e; exact h⟩
  unfold isEff at ho
  split at ho
  · simp only [agop, aop, effV]
    split
    · rename_i hc; first | (rw [hc]; exact yes (R := fun m v => K (St.put ⟨s.tmps, m⟩ _ v))) | exact yes (R := fun m v => K (St.put ⟨s.tmps, m⟩ _ v))
    · rename_i hc; first | (rw [hc]; exact no (R := fun m v => K (St.put ⟨s.tmps, m⟩ _ v))) | exact no (R := fun m v => K (St.put ⟨s.tmps, m⟩ _ v))
  · simp only [agop, aop, effV]
    split
    · rename_i hc
      try rw [hc]
      dsimp only
      split
      · rename_i hr; first | (rw [hr]; exact yes (R := fun m v => K (St.put ⟨s.tmps, m⟩ _ v))) | exact yes (R := fun m v => K (St.put ⟨s.tmps, m⟩ _ v))
      · rename_i hr; first | (rw [hr]; exact no (R := fun m v => K (St.put ⟨s.tmps, m⟩ _ v))) | exact no (R := fun m v => K (St.put ⟨s.tmps, m⟩ _ v))
    · rename_i hc; first | (rw [hc]; exact no (R := fun m v => K (St.put ⟨s.tmps, m⟩ _ v))) | exact no (R := fun m v => K (St.put ⟨s.tmps, m⟩ _ v))
  · simp only [agop, aop, effV, stA]
    split
    · rename_i h1 h2 h3
      rw [h1, h2, h3]
      dsimp only
      split
      · rename_i hm
        rw [hm]
        dsimp only
        split
        · rename_i g c' hw
          rw [hw]
          cases g
          · simp only [gd]; exact no (R := fun m v => K (St.put ⟨s.tmps, m⟩ _ v))
          · simp only [gd]; exact yes (R := fun m v => K (St.put ⟨s.tmps, m⟩ _ v))
        · rename_i hw
          rw [hw]
          exact no (R := fun m v => K (St.put ⟨s.tmps, m⟩ _ v))
      · rename_i hm
        rw [hm]
        exact no (R := fun m v => K (St.put ⟨s.tmps, m⟩ _ v))
    · rename_i hno
      split
      · rename_i h1 h2 h3
        exact (hno _ _ _ _ h1 h2 h3).elim
      · exact no (R := fun m v => K (St.put ⟨s.tmps, m⟩ _ v))
  · simp at ho
theorem effV_set {m t : List V} {d : Nat} {v : V} {op : Op} (h : ∀ x ∈ op.operands, x ≠ .tmp d) : effV P m (t.set d v) op = effV P m t op := by
  cases op <;> simp only [effV]
  case box ty x => rw [ev_set (h x (by simp [Op.operands]))]
  case store ty x y => rw [ev_set (h x (by simp [Op.operands])), ev_set (h y (by simp [Op.operands]))]
theorem effV_new {m t m' : List V} {v : V} {o : Oper} (ho : isNew o = true) (h : effV P m t o.op = some (m', v)) : ∃ z, m' = m ++ [z] := by
  unfold isNew at ho
  split at ho
  · simp only [effV] at h
    split at h
    · simp only [Option.some.injEq, Prod.mk.injEq] at h; exact ⟨_, h.1.symm⟩
    · simp at h
  · simp only [effV] at h
    split at h
    · split at h
      · simp only [Option.some.injEq, Prod.mk.injEq] at h; exact ⟨_, h.1.symm⟩
      · simp at h
    · simp at h
  · simp at ho

theorem yV_set {ops : Array Oper} {t : List V} {j : Nat} {d : Nat} {v : V} (h : (ops[j]?).bind (·.dst) ≠ some d) : yV ops (t.set d v) j = yV ops t j := by
  unfold yV
  cases ho : ops[j]? with
  | none => rfl
  | some o =>
    simp only
    cases hd : o.dst with
    | none => rfl
    | some e =>
      have : d ≠ e := fun e' => h (by simp [ho, hd, e'])
      simp only [List.getElem?_set_ne this]

theorem mem_looks {ops : Array Oper} {o : Oper} {d : Tmp} : d ∉ o.looksAt ops → (∀ x ∈ o.op.operands, x ≠ .tmp d) ∧ (∀ j want, o.guard = some (j, want) → (ops[j]?).bind (·.dst) ≠ some d) := by
  intro h
  unfold Oper.looksAt at h
  rw [List.mem_append, not_or] at h
  refine ⟨fun x hx e => h.1 ?_, fun j want hg e => h.2 ?_⟩
  · rw [List.mem_filterMap]
    exact ⟨x, by simpa using hx, by rw [e]⟩
  · rw [hg]; simp [e]

theorem qv_put {ops : Array Oper} {o : Oper} {s : St} {d : Option Tmp} {v : V} (h : ∀ e, d = some e → e ∉ o.looksAt ops) : qv P F ops o (s.put d v).mem (s.put d v).tmps = qv P F ops o s.mem s.tmps := by
  cases d with
  | none => rfl
  | some d =>
    obtain ⟨h1, h2⟩ := mem_looks (h d rfl)
    unfold qv
    simp only [St.put, opv_set h1]
    split
    · rfl
    · rename_i j want hg
      rw [yV_set (h2 j want hg)]

theorem put_comm {s : St} {d e : Option Tmp} {v u : V} (h : ∀ x, d = some x → e ≠ some x) : (s.put d v).put e u = (s.put e u).put d v := by
  cases d with
  | none => rfl
  | some d =>
    cases e with
    | none => rfl
    | some e =>
      have : d ≠ e := fun x => h d rfl (by rw [x])
      simp [St.put, List.set_comm _ _ this]

/-! ### The order -/

inductive Anc (ops : Array Oper) : Nat → Nat → Prop
  | step {j : Nat} {o : Oper} {e : Edge} : ops[j]? = some o → e ∈ o.after → Region.binds .any e = true → Anc ops j e.on
  | next {j i : Nat} {o : Oper} {e : Edge} : ops[j]? = some o → e ∈ o.after → Region.binds .any e = true → Anc ops e.on i → Anc ops j i

def arun (P : Program) (F : Orc) (ops : Array Oper) : List Nat → (St → Prop) → St → Prop
  | [], K, s => K s
  | i :: l, K, s => match ops[i]? with
    | some o => agop P F noG ops o (arun P F ops l K) s
    | none => False

/-- Two operations that may come in either order do not meet. -/
def Free (ops : Array Oper) : Prop := ∀ i j oi oj, i < j → ops[i]? = some oi → ops[j]? = some oj → Anc ops j i ∨ (effOp oi.op = false ∧ (effOp oj.op = false ∨ isEff oj = true ∧ (isNew oj = true ∨ stillOp oi.op = true)) ∧ oi.apart ops oj = true)

/-- What is gone over before i comes. -/
def ahead (R : Nat → Prop) (i : Nat) : List Nat → Prop
  | [] => True
  | k :: rest => k = i ∨ (R k ∧ ahead R i rest)
theorem ahead_sorted {R : Nat → Prop} {i : Nat} : ∀ {l : List Nat}, (∀ k ∈ l, k < i → R k) → l.Pairwise (· < ·) → i ∈ l → ahead R i l
  | [], _, _, _ => trivial
  | k :: rest, hR, hp, hm => by
    rcases List.mem_cons.1 hm with h | h
    · exact .inl h.symm
    · exact .inr ⟨hR k (by simp) ((List.pairwise_cons.1 hp).1 i h), ahead_sorted (fun x hx => hR x (by simp [hx])) (List.pairwise_cons.1 hp).2 h⟩

theorem arun_ahead (hF : OrcOK P F) {ops : Array Oper} {i : Nat} {oi : Oper} {R : Nat → Prop}
    (hf : ∀ k ok, R k → ops[k]? = some ok → Anc ops i k ∨ (effOp ok.op = false ∧ (effOp oi.op = false ∨ isEff oi = true ∧ (isNew oi = true ∨ stillOp ok.op = true)) ∧ ok.apart ops oi = true)) (hi : ops[i]? = some oi) {K : St → Prop} :
    ∀ {rem : List Nat} {s : St}, ahead R i rem → i ∈ rem → (∀ k ∈ rem, ¬ Anc ops i k) → arun P F ops rem K s → agop P F noG ops oi (arun P F ops (rem.erase i) K) s
  | [], _, _, hm, _, _ => by simp at hm
  | k :: rest, s, hp, hm, hready, h => by
    by_cases hki : k = i
    · subst hki
      rw [List.erase_cons_head]
      simpa [arun, hi] using h
    · rw [List.erase_cons_tail (by simpa using hki)]
      have hir : i ∈ rest := by
        rcases List.mem_cons.1 hm with h | h
        · exact absurd h.symm hki
        · exact h
      obtain ⟨hlt, hp2⟩ : R k ∧ ahead R i rest := hp.resolve_left hki
      cases hk : ops[k]? with
      | none => simp [arun, hk] at h
      | some ok =>
        obtain ⟨hek, hei, hap⟩ := (hf k ok hlt hk).resolve_left (hready k (by simp))
        obtain ⟨a1, a2, a3⟩ := Oper.apart_spec hap
        simp only [arun, hk] at h
        obtain ⟨vk, hvk, h⟩ := (agop_quiet hek).1 h
        have ih := arun_ahead hF hf hi hp2 hir (fun k hk => hready k (by simp [hk])) h
        rcases hei with hei | hei
        · obtain ⟨vi, hvi, ih⟩ := (agop_quiet hei).1 ih
          rw [qv_put a1] at hvi
          refine (agop_quiet hei).2 ⟨vi, hvi, ?_⟩
          simp only [arun, hk]
          refine (agop_quiet hek).2 ⟨vk, by rw [qv_put a3]; exact hvk, ?_⟩
          rw [← put_comm a2]; exact ih
        · obtain ⟨hei, hst⟩ := hei
          obtain ⟨m', vi, hvi, ih⟩ := (agop_eff hei).1 ih
          have hm : (s.put ok.dst vk).mem = s.mem := by cases ok.dst <;> rfl
          have hn : effV P s.mem (s.put ok.dst vk).tmps oi.op = effV P s.mem s.tmps oi.op := by
            cases hd : ok.dst with
            | none => rfl
            | some d => exact effV_set (mem_looks (a1 d hd)).1
          rw [hm, hn] at hvi
          refine (agop_eff hei).2 ⟨m', vi, hvi, ?_⟩
          simp only [arun, hk]
          refine (agop_quiet hek).2 ⟨vk, ?_, ?_⟩
          · rw [qv_put a3]
            rcases hst with hst | hst
            · obtain ⟨z, rfl⟩ := effV_new hst hvi
              exact qv_grow hF hvk
            · rw [qv_still (m := m') (m' := s.mem) hst]; exact hvk
          · have e : (⟨(s.put ok.dst vk).tmps, m'⟩ : St) = St.put ⟨s.tmps, m'⟩ ok.dst vk := by cases ok.dst <;> rfl
            rw [e, put_comm a2] at ih
            exact ih

theorem arun_first (hF : OrcOK P F) {ops : Array Oper} (hf : Free ops) {i : Nat} {oi : Oper} (hi : ops[i]? = some oi) {K : St → Prop}
    {rem : List Nat} {s : St} (hp : rem.Pairwise (· < ·)) (hm : i ∈ rem) (hr : ∀ k ∈ rem, ¬ Anc ops i k) (h : arun P F ops rem K s) : agop P F noG ops oi (arun P F ops (rem.erase i) K) s :=
  arun_ahead hF (R := (· < i)) (fun k ok hk ho => hf k i ok oi hk ho hi) hi (ahead_sorted (fun _ _ h => h) hp hm) hm hr h

end
end Go.Ev
