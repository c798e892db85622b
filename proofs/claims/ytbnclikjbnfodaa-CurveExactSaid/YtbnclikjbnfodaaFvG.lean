/-
  The evaluator over code; a call is what the evaluator says of its body. Conditions: none.
-/
import Derived.Test.YtbnclikjbnfodaaFvF
namespace Go.Ev
open RowKit (Below)

/-! ### The Bool over a region -/

def maskOf (o : Oper) (acc : List Nat) : Nat :=
  o.after.toList.foldl (fun m e => if Region.binds .any e then m ||| 2 ^ e.on ||| acc.getD e.on 0 else m) 0
def masks : List Oper → List Nat → List Nat
  | [], acc => acc
  | o :: l, acc => masks l (acc ++ [maskOf o acc])

def pairOK (ops : Array Oper) (ms : List Nat) (i j : Nat) : Bool :=
  match ops[i]?, ops[j]? with
  | some oi, some oj => (ms.getD j 0).testBit i || (!effOp oi.op && (!effOp oj.op || (isEff oj && (isNew oj || stillOp oi.op))) && oi.apart ops oj)
  | _, _ => true
def allBelow (f : Nat → Bool) : Nat → Bool
  | 0 => true
  | n + 1 => f n && allBelow f n
def drawOK (ops : Array Oper) : Bool :=
  ops.toList.zipIdx.all (fun (o, i) => o.after.toList.all fun e => !Region.binds .any e || Nat.blt e.on i) &&
  (let ms := masks ops.toList []
   allBelow (fun j => allBelow (fun i => pairOK ops ms i j) j) ops.size)

/-- It reads no memory, makes nothing and calls nobody. -/
def stillq (op : Op) : Bool := stillOp op && !effOp op
def pairOKG (ops : Array Oper) (ms : List Nat) (i j : Nat) : Bool :=
  match ops[i]?, ops[j]? with
  | some oi, some oj => (ms.getD j 0).testBit i || (stillq oi.op && oj.guard.isNone && oi.apart ops oj)
  | _, _ => true
/-- A region whose order is drawn, in which callees may touch memory. -/
def drawG (ops : Array Oper) : Bool :=
  ops.toList.zipIdx.all (fun (o, i) => o.after.toList.all fun e => !Region.binds .any e || Nat.blt e.on i) &&
  (let ms := masks ops.toList []
   allBelow (fun j => allBelow (fun i => pairOKG ops ms i j) j) ops.size)

/-- The first two neighbours that both make a block. -/
def pairAt (ops : Array Oper) : Option Nat :=
  (List.range ops.size).find? fun a => match ops[a]?, ops[a + 1]? with
    | some x, some y => isNew x && isNew y
    | _, _ => false
def notApp (o : Oper) : Bool :=
  match o.op with
  | .call c => match c.callee with
    | .builtin _ => false
    | _ => true
  | .makeSlice _ _ _ => false
  | _ => true
/-- As 'drawOK', but for the neighbours a and a + 1. -/
def drawOK2 (ops : Array Oper) (a : Nat) : Bool :=
  ops.toList.all notApp && (
  ops.toList.zipIdx.all (fun (o, i) => o.after.toList.all fun e => !Region.binds .any e || Nat.blt e.on i) &&
  (let ms := masks ops.toList []
   allBelow (fun j => allBelow (fun i => (Nat.beq i a && Nat.beq j (a + 1)) || pairOK ops ms i j) j) ops.size))
/-- a and a + 1 change places. -/
def sw (a k : Nat) : Nat := bif Nat.beq k a then a + 1 else bif Nat.beq k (a + 1) then a else k

theorem allBelow_spec {f : Nat → Bool} : ∀ {n i : Nat}, allBelow f n = true → i < n → f i = true
  | 0, i, _, hi => by omega
  | n + 1, i, h, hi => by
    simp only [allBelow, Bool.and_eq_true] at h
    by_cases e : i = n
    · subst e; exact h.1
    · exact allBelow_spec h.2 (by omega)

section
variable {ops : Array Oper}

theorem maskOf_anc {j : Nat} {o : Oper} {acc : List Nat} (ho : ops[j]? = some o) (hacc : ∀ k i, (acc.getD k 0).testBit i = true → Anc ops k i) :
    ∀ i, (maskOf o acc).testBit i = true → Anc ops j i := by
  have key : ∀ (l : List Edge) (m : Nat), (∀ e ∈ l, e ∈ o.after) → (∀ i, m.testBit i = true → Anc ops j i) →
      ∀ i, (l.foldl (fun m e => if Region.binds .any e then m ||| 2 ^ e.on ||| acc.getD e.on 0 else m) m).testBit i = true → Anc ops j i := by
    intro l
    induction l with
    | nil => intro m _ hm; exact hm
    | cons e l ih =>
      intro m hl hm
      simp only [List.foldl_cons]
      refine ih _ (fun x hx => hl x (by simp [hx])) fun i hi => ?_
      split at hi
      · rename_i hb
        rw [Nat.testBit_or, Nat.testBit_or] at hi
        simp only [Bool.or_eq_true] at hi
        rcases hi with (hi | hi) | hi
        · exact hm i hi
        · rw [Nat.testBit_two_pow] at hi
          have : i = e.on := by simpa using (of_decide_eq_true hi).symm
          subst this
          exact .step ho (hl e (by simp)) hb
        · exact .next ho (hl e (by simp)) hb (hacc _ _ hi)
      · exact hm i hi
  intro i hi
  exact key o.after.toList 0 (fun e he => by simpa using he) (fun i hi => by simp at hi) i hi

theorem masks_anc : ∀ {l : List Oper} {acc : List Nat}, (∀ j, l[j]? = ops[acc.length + j]?) → (∀ k i, (acc.getD k 0).testBit i = true → Anc ops k i) →
    ∀ k i, ((masks l acc).getD k 0).testBit i = true → Anc ops k i
  | [], _, _, hacc => hacc
  | o :: l, acc, hl, hacc => by
    simp only [masks]
    refine masks_anc (fun j => ?_) fun k i hk => ?_
    · have := hl (j + 1)
      simp only [List.getElem?_cons_succ] at this
      rw [this]; simp; congr 1; omega
    · rw [List.getD_eq_getElem?_getD, List.getElem?_append] at hk
      split at hk
      · exact hacc k i (by rw [List.getD_eq_getElem?_getD]; exact hk)
      · rename_i h
        by_cases e : k = acc.length
        · subst e
          simp only [Nat.sub_self, List.getElem?_cons_zero, Option.getD_some] at hk
          exact maskOf_anc (by have := hl 0; simpa using this.symm) hacc i hk
        · have : [maskOf o acc][k - acc.length]? = none := by simp; omega
          rw [this] at hk; simp at hk

theorem drawOK_free (h : drawOK ops = true) : Free ops := by
  simp only [drawOK, Bool.and_eq_true] at h
  intro i j oi oj hij hi hj
  have hjn : j < ops.size := (Array.getElem?_eq_some_iff.1 hj).1
  have h2 : pairOK ops (masks ops.toList []) i j = true := allBelow_spec (f := fun i => pairOK ops (masks ops.toList []) i j) (allBelow_spec (f := fun j => allBelow (fun i => pairOK ops (masks ops.toList []) i j) j) h.2 hjn) hij
  simp only [pairOK, hi, hj, Bool.or_eq_true, Bool.and_eq_true, Bool.not_eq_true'] at h2
  rcases h2 with h2 | ⟨⟨h2, h3⟩, h4⟩
  · exact .inl (masks_anc (ops := ops) (l := ops.toList) (acc := []) (fun j => by simp) (fun k i hk => by simp at hk) j i h2)
  · exact .inr ⟨h2, h3, h4⟩

theorem drawOK_back (h : drawOK ops = true) {i : Nat} {o : Oper} (hi : ops[i]? = some o) {e : Edge} (he : e ∈ o.after) (hb : Region.binds .any e = true) : e.on < i := by
  simp only [drawOK, Bool.and_eq_true] at h
  have h1 := List.all_eq_true.1 h.1 (o, i) (by
    rw [List.mem_zipIdx_iff_getElem?]; simpa using hi)
  have h2 := List.all_eq_true.1 h1 e (by simpa using he)
  simp only [hb, Bool.not_true, Bool.false_or] at h2
  exact bltT.1 h2

def Free2 (ops : Array Oper) (a : Nat) : Prop := ∀ i j oi oj, i < j → ¬ (i = a ∧ j = a + 1) → ops[i]? = some oi → ops[j]? = some oj → Anc ops j i ∨ (effOp oi.op = false ∧ (effOp oj.op = false ∨ isEff oj = true ∧ (isNew oj = true ∨ stillOp oi.op = true)) ∧ oi.apart ops oj = true)
theorem drawOK2_free {a : Nat} (h : drawOK2 ops a = true) : Free2 ops a := by
  simp only [drawOK2, Bool.and_eq_true] at h
  have h := h.2
  intro i j oi oj hij hne hi hj
  have hjn : j < ops.size := (Array.getElem?_eq_some_iff.1 hj).1
  have h2 := allBelow_spec (f := fun i => (Nat.beq i a && Nat.beq j (a + 1)) || pairOK ops (masks ops.toList []) i j) (allBelow_spec (f := fun j => allBelow (fun i => (Nat.beq i a && Nat.beq j (a + 1)) || pairOK ops (masks ops.toList []) i j) j) h.2 hjn) hij
  simp only [Bool.or_eq_true, Bool.and_eq_true] at h2
  have h2 := h2.resolve_left (fun ⟨x, y⟩ => hne ⟨beqT.1 x, beqT.1 y⟩)
  simp only [pairOK, hi, hj, Bool.or_eq_true, Bool.and_eq_true, Bool.not_eq_true'] at h2
  rcases h2 with h2 | ⟨⟨h2, h3⟩, h4⟩
  · exact .inl (masks_anc (ops := ops) (l := ops.toList) (acc := []) (fun j => by simp) (fun k i hk => by simp at hk) j i h2)
  · exact .inr ⟨h2, h3, h4⟩
theorem drawOK2_back {a : Nat} (h : drawOK2 ops a = true) {i : Nat} {o : Oper} (hi : ops[i]? = some o) {e : Edge} (he : e ∈ o.after) (hb : Region.binds .any e = true) : e.on < i := by
  simp only [drawOK2, Bool.and_eq_true] at h
  have h := h.2
  have h1 := List.all_eq_true.1 h.1 (o, i) (by
    rw [List.mem_zipIdx_iff_getElem?]; simpa using hi)
  have h2 := List.all_eq_true.1 h1 e (by simpa using he)
  simp only [hb, Bool.not_true, Bool.false_or] at h2
  exact bltT.1 h2

theorem sw_a (a : Nat) : sw a a = a + 1 := by simp [sw]
theorem sw_b (a : Nat) : sw a (a + 1) = a := by
  unfold sw
  rw [ff beqT (show ¬ a + 1 = a by omega), beqT.2 rfl]; rfl
theorem sw_o {a k : Nat} (h1 : k ≠ a) (h2 : k ≠ a + 1) : sw a k = k := by
  unfold sw
  rw [ff beqT h1, ff beqT h2]; rfl
/-- What may stand ahead of i. -/
def Low (a i k : Nat) : Prop := k < i ∧ ¬ (k = a ∧ i = a + 1)
theorem ahead_sw {a i : Nat} (h1 : i ≠ a) (h2 : i ≠ a + 1) : ∀ {l : List Nat}, l.Pairwise (· < ·) → i ∈ l → ahead (Low a i) i (l.map (sw a))
  | [], _, _ => trivial
  | k :: rest, hp, hm => by
    rcases List.mem_cons.1 hm with h | h
    · subst h; exact .inl (sw_o h1 h2)
    · have hlt := (List.pairwise_cons.1 hp).1 i h
      refine .inr ⟨⟨?_, fun ⟨_, e⟩ => h2 e⟩, ahead_sw h1 h2 (List.pairwise_cons.1 hp).2 h⟩
      by_cases e1 : k = a
      · rw [e1, sw_a]; omega
      · by_cases e2 : k = a + 1
        · rw [e2, sw_b]; omega
        · rw [sw_o e1 e2]; exact hlt
theorem ahead_sw' {a : Nat} : ∀ {l : List Nat}, l.Pairwise (· < ·) → a ∈ l → ahead (Low a (a + 1)) (a + 1) (l.map (sw a))
  | [], _, _ => trivial
  | k :: rest, hp, hm => by
    rcases List.mem_cons.1 hm with h | h
    · subst h; exact .inl (sw_a a)
    · have hlt := (List.pairwise_cons.1 hp).1 a h
      refine .inr ⟨?_, ahead_sw' (List.pairwise_cons.1 hp).2 h⟩
      rw [sw_o (by omega) (by omega)]
      exact ⟨by omega, fun ⟨e, _⟩ => by omega⟩
theorem erase_sw {a i : Nat} (h1 : i ≠ a) (h2 : i ≠ a + 1) : ∀ (l : List Nat), (l.map (sw a)).erase i = (l.erase i).map (sw a)
  | [] => rfl
  | k :: rest => by
    by_cases e : k = i
    · subst e
      rw [List.map_cons, sw_o h1 h2, List.erase_cons_head, List.erase_cons_head]
    · have e' : sw a k ≠ i := by
        by_cases e1 : k = a
        · rw [e1, sw_a]; exact fun h => h2 h.symm
        · by_cases e2 : k = a + 1
          · rw [e2, sw_b]; exact fun h => h1 h.symm
          · rw [sw_o e1 e2]; exact e
      rw [List.map_cons, List.erase_cons_tail (by simpa using e'), List.erase_cons_tail (by simpa using e), List.map_cons, erase_sw h1 h2 rest]
theorem erase_sw' {a : Nat} : ∀ {l : List Nat}, l.Pairwise (· < ·) → a ∈ l → a + 1 ∈ l → (l.map (sw a)).erase (a + 1) = l.erase (a + 1)
  | [], _, h, _ => by simp at h
  | k :: rest, hp, ha, hb => by
    obtain ⟨p1, p2⟩ := List.pairwise_cons.1 hp
    by_cases e : k = a
    · subst e
      have hbr : k + 1 ∈ rest := by
        rcases List.mem_cons.1 hb with h | h
        · omega
        · exact h
      cases rest with
      | nil => simp at hbr
      | cons x xs =>
        obtain ⟨q1, q2⟩ := List.pairwise_cons.1 p2
        have hx : x = k + 1 := by
          have := p1 x (by simp)
          rcases List.mem_cons.1 hbr with h | h
          · exact h.symm
          · have := q1 _ h; omega
        subst hx
        have hid : xs.map (sw k) = xs := by
          refine (List.map_congr_left fun y hy => ?_).trans (List.map_id xs)
          have := q1 y hy
          exact sw_o (by omega) (by omega)
        rw [List.map_cons, List.map_cons, sw_a, sw_b, hid, List.erase_cons_head, List.erase_cons_tail (by simp), List.erase_cons_head]
    · have har : a ∈ rest := (List.mem_cons.1 ha).resolve_left (fun h => e h.symm)
      have hlt := p1 a har
      have hbr : a + 1 ∈ rest := (List.mem_cons.1 hb).resolve_left (by omega)
      rw [List.map_cons, sw_o (by omega) (by omega), List.erase_cons_tail (by simp; omega), List.erase_cons_tail (by simp; omega), erase_sw' p2 har hbr]
end

/-! ### Regions -/
section
variable {P : Program} {F : Orc} {G : GOrc}

theorem agop_sound (hF : OrcOK P F) (hG : GOrcOK P G) {C : Ctx} (hB : Under C.B C.w0) {ops : Array Oper} {i : Nat} {o : Oper} (ho : ops[i]? = some o) {K : St → Prop} {s : St} {μ : Mu} {a : Act} {w : World} {Q : Exit → Act → World → Prop}
    (h : agop P F G ops o K s) (hr : RelA C μ s a w) : wpOp P ops Q i (After C K) a w := by
  have hskip : ∀ {s : St}, RelA C μ s a w → RelA C μ (s.put o.dst V.un) (a.put o.dst undef) w := fun {s} hr => hr.put o.dst (fun _ _ => by simp [V.un, V.den, V.dens, undef])
  unfold wpOp
  simp only [ho]
  unfold agop at h
  split at h
  · rename_i hg
    simp only [Region.wanted, hg, if_true]
    exact .inl (aop_sound hF hG hB h hr)
  · rename_i j want hg
    simp only [Region.wanted, hg]
    obtain ⟨_, ha⟩ := hr.all μ (Agree.refl _ _)
    cases hy : yV ops s.tmps j with
    | some p =>
      obtain ⟨d, b⟩ := p
      obtain ⟨h1, h2⟩ := yV_spec hy
      have hyl : yielded ops a.tmps j = some b := by
        unfold yielded
        rw [h2]
        simp [ha, act, h1, V.den]
      rw [hyl]
      simp only [hy] at h
      cases b <;> cases want <;> simp only [put_same h1] at h <;> simp
      · exact .inl (aop_sound hF hG hB h hr)
      · exact ⟨_, μ, h, hskip hr⟩
      · exact ⟨_, μ, h, hskip hr⟩
      · exact .inl (aop_sound hF hG hB h hr)
    | none =>
      have hyl : yielded ops a.tmps j = none := by
        unfold yielded
        unfold yV at hy
        cases hj : ops[j]? with
        | none => rfl
        | some oj =>
          simp only [hj] at hy
          cases hd : oj.dst with
          | none => simp [hd]
          | some d =>
            simp only [hd] at hy
            simp only [Option.bind_some, hd, ha, act, List.getElem?_toArray, List.getElem?_map]
            cases ht : s.tmps[d]? with
            | none => rfl
            | some v =>
              rw [ht] at hy
              cases v <;> simp [V.den] at hy ⊢
              rename_i q
              cases q <;> rfl
      rw [hyl]
      simp only [hy] at h
      simp
      exact ⟨_, μ, h, hskip hr⟩

def aops' (P : Program) (F : Orc) (G : GOrc) (ops : Array Oper) : List Nat → (St → Prop) → St → Prop
  | [], K, s => K s
  | i :: l, K, s => match ops[i]? with
    | some o => agop P F G ops o (aops' P F G ops l K) s
    | none => False

theorem aops_idx {ops : Array Oper} {K : St → Prop} : ∀ {l : List Oper} {k : Nat}, (∀ j, l[j]? = ops[k + j]?) → aops P F G ops l K = aops' P F G ops (List.range' k l.length) K
  | [], _, _ => rfl
  | o :: l, k, hl => by
    have h0 : ops[k]? = some o := by have := hl 0; simpa using this.symm
    funext s
    simp only [List.length_cons, List.range'_succ, aops', h0, aops]
    rw [aops_idx (l := l) (k := k + 1) (fun j => by have := hl (j + 1); simpa [Nat.add_assoc, Nat.add_comm 1 j] using this)]

theorem aops'_sound (hF : OrcOK P F) (hG : GOrcOK P G) {C : Ctx} (hB : Under C.B C.w0) {ops : Array Oper} {Q : Exit → Act → World → Prop} {K : St → Prop} (hQ : ∀ a w, After C K a w → Q .normal a w) :
    ∀ {l : List Nat} {s : St} {μ : Mu} {a : Act} {w : World}, aops' P F G ops l K s → RelA C μ s a w → wpOps P ops Q l a w
  | [], s, μ, a, w, h, hr => hQ _ _ ⟨s, μ, h, hr⟩
  | i :: l, s, μ, a, w, h, hr => by
    simp only [aops'] at h
    split at h
    · rename_i o ho
      rw [wpOps_cons]
      exact wpOp_mono (fun a' w' ⟨s', μ', h', hr'⟩ => aops'_sound hF hG hB hQ h' hr') (agop_sound hF hG hB ho h hr)
    · exact h.elim

theorem RelA.drawn {C : Ctx} {μ : Mu} {s : St} {a : Act} {w : World} (h : RelA C μ s a w) (n : Nat) : RelA C μ s a { w with drawn := n } :=
  ⟨fun μ' hμ => by
    obtain ⟨h1, h2⟩ := h.all μ' hμ
    exact ⟨⟨h1.below.trans ⟨rfl, rfl, rfl, Nat.le_refl _, fun _ _ => rfl⟩, h1.hold, h1.inj⟩, h2⟩, h.ext, h.len⟩

/-- What has not come up yet. -/
def remOf (n : Nat) (listed : Array Bool) : List Nat := (List.range n).filter fun i => !listed.getD i true

theorem mem_rem {n i : Nat} {listed : Array Bool} : i ∈ remOf n listed ↔ i < n ∧ listed.getD i true = false := by
  simp only [remOf, List.mem_filter, List.mem_range, Bool.not_eq_true']

theorem rem_sorted (n : Nat) (listed : Array Bool) : (remOf n listed).Pairwise (· < ·) :=
  List.Pairwise.filter _ List.pairwise_lt_range

theorem rem_erase {n i : Nat} {listed : Array Bool} (hi : i ∈ remOf n listed) : remOf n (listed.setIfInBounds i true) = (remOf n listed).erase i := by
  have hnd : (remOf n listed).Nodup := (rem_sorted n listed).imp (fun h => Nat.ne_of_lt h)
  rw [hnd.erase_eq_filter]
  unfold remOf
  rw [List.filter_filter]
  apply List.filter_congr
  intro x hx
  have hu := (mem_rem.1 hi).2
  by_cases e : i = x
  · subst e
    have : i < listed.size := by
      rcases Nat.lt_or_ge i listed.size with h | h
      · exact h
      · simp [Array.getElem?_eq_none h] at hu
    simp [this]
  · rw [getD_set_ne true e]
    have : (x != i) = true := by simp; exact fun h => e h.symm
    simp [this]

theorem anc_listed {ops : Array Oper} {listed : Array Bool} (hc : ∀ j oj, ops[j]? = some oj → listed.getD j false = true → ∀ e ∈ oj.after, Region.binds .any e = true → listed.getD e.on false = true) :
    ∀ {j i : Nat}, Anc ops j i → (∀ oj, ops[j]? = some oj → ∀ e ∈ oj.after, Region.binds .any e = true → listed.getD e.on false = true) → listed.getD i false = true := by
  intro j i h
  induction h with
  | step ho he hb => intro hall; exact hall _ ho _ he hb
  | next ho he hb _ ih => intro hall; exact ih fun oj hoj => hc _ oj hoj (hall _ ho _ he hb)

theorem getD_both' {listed : Array Bool} {i : Nat} (h : listed.getD i false = true) : listed.getD i true = true := by
  rcases Nat.lt_or_ge i listed.size with h' | h'
  · simp [h'] at h ⊢; exact h
  · simp [Array.getElem?_eq_none h'] at h

theorem draw_any (hF : OrcOK P F) {C : Ctx} (hB : Under C.B C.w0) {ops : Array Oper} (hd : drawOK ops = true) {Q : Exit → Act → World → Prop} {K : St → Prop} (hQ : ∀ a w, After C K a w → Q .normal a w) :
    ∀ (fuel : Nat) (listed : Array Bool) (s : St) (μ : Mu) (a : Act) (w : World), (remOf ops.size listed).length = fuel → listed.size = ops.size →
      (∀ j oj, ops[j]? = some oj → listed.getD j false = true → ∀ e ∈ oj.after, Region.binds .any e = true → listed.getD e.on false = true) →
      arun P F ops (remOf ops.size listed) K s → RelA C μ s a w → wpAny P .any ops Q fuel listed a w := by
  intro fuel
  induction fuel with
  | zero =>
    intro listed s μ a w hlen hsz hc h hr
    have hnil : remOf ops.size listed = [] := List.eq_nil_of_length_eq_zero hlen
    refine ⟨?_, hQ _ _ ⟨s, μ, by rw [hnil] at h; exact h, hr⟩⟩
    cases hrd : Region.ready .any ops listed with
    | nil => rfl
    | cons x xs =>
      have hx : x ∈ Region.ready .any ops listed := by rw [hrd]; simp
      obtain ⟨h1, o, ho, _⟩ := mem_ready.1 hx
      have : x ∈ remOf ops.size listed := mem_rem.2 ⟨(Array.getElem?_eq_some_iff.1 ho).1, h1⟩
      rw [hnil] at this; simp at this
  | succ fuel ih =>
    intro listed s μ a w hlen hsz hc h hr
    refine ⟨fun h0 => ?_, fun i hi => ?_⟩
    · exfalso
      obtain ⟨x, rest, hx⟩ : ∃ x rest, remOf ops.size listed = x :: rest := by
        cases hrem : remOf ops.size listed with
        | nil => rw [hrem] at hlen; simp at hlen
        | cons x rest => exact ⟨x, rest, rfl⟩
      have hxm : x ∈ remOf ops.size listed := by rw [hx]; simp
      obtain ⟨hxn, hxu⟩ := mem_rem.1 hxm
      have hmin : ∀ y ∈ remOf ops.size listed, x ≤ y := by
        intro y hy
        have hs := rem_sorted ops.size listed
        rw [hx] at hs hy
        rcases List.mem_cons.1 hy with rfl | hy
        · exact Nat.le_refl _
        · exact Nat.le_of_lt ((List.pairwise_cons.1 hs).1 y hy)
      have : x ∈ Region.ready .any ops listed := by
        refine mem_ready.2 ⟨hxu, ops[x], Array.getElem?_eq_getElem hxn, fun e he hb => ?_⟩
        have hlt := drawOK_back hd (Array.getElem?_eq_getElem hxn) he hb
        cases hl : listed.getD e.on false with
        | true => rfl
        | false =>
          have hin : e.on < listed.size := by omega
          have : listed.getD e.on true = false := by simp [hin] at hl ⊢; exact hl
          have := hmin e.on (mem_rem.2 ⟨by omega, this⟩)
          omega
      rw [h0] at this; simp at this
    · obtain ⟨hiu, o, ho, hall⟩ := mem_ready.1 hi
      have him : i ∈ remOf ops.size listed := mem_rem.2 ⟨(Array.getElem?_eq_some_iff.1 ho).1, hiu⟩
      have hready : ∀ k ∈ remOf ops.size listed, ¬ Anc ops i k := by
        intro k hk hanc
        have := anc_listed hc hanc (fun oj hoj => by
          rw [ho] at hoj; simp only [Option.some.injEq] at hoj; subst hoj; exact hall)
        have h1 := (mem_rem.1 hk).2
        rw [getD_both' this] at h1; simp at h1
      have h1 := arun_first hF (drawOK_free hd) ho (rem_sorted ops.size listed) him hready h
      rw [← rem_erase him] at h1
      refine wpOp_mono (fun a' w' ⟨s', μ', h', hr'⟩ => ih _ s' μ' a' w' ?_ (by simp [hsz]) ?_ h' hr') (agop_sound hF (noG_ok P) hB ho h1 hr)
      · rw [rem_erase him, List.length_erase_of_mem him, hlen]; rfl
      · intro j oj hoj hl e he hb
        by_cases hij : i = j
        · subst hij
          rw [ho] at hoj; simp only [Option.some.injEq] at hoj; subst hoj
          exact getD_set_true (hall e he hb)
        · rw [getD_set_ne false hij] at hl
          exact getD_set_true (hc j oj hoj hl e he hb)

theorem aop_mono {o : Oper} {K K' : St → Prop} (hK : ∀ s, K s → K' s) {s : St} (h : aop P F noG o K s) : aop P F noG o K' s := by
  unfold aop stA callA mkA appA copA gd at *
  repeat' split at h
  all_goals first | exact hK _ h | exact h.elim | (intro cap hc; have h := h cap hc; revert h; split; · exact fun h => hK _ h
                                                   · exact fun h => h) | (simp_all; done) | skip
theorem aop_both {o : Oper} (hn : notApp o = true) {K K' : St → Prop} {s : St} (h : aop P F noG o K s) (h' : aop P F noG o K' s) : aop P F noG o (fun s => K s ∧ K' s) s := by
  unfold notApp at hn
  unfold aop stA callA gd at *
  repeat' split at h
  all_goals first | exact ⟨h, h'⟩ | exact h.elim | (simp_all; done) | skip
theorem drawOK2_app {ops : Array Oper} {a : Nat} (h : drawOK2 ops a = true) {i : Nat} {o : Oper} (hi : ops[i]? = some o) : notApp o = true := by
  simp only [drawOK2, Bool.and_eq_true] at h
  exact List.all_eq_true.1 h.1 o (by simpa using Array.mem_of_getElem? hi)
theorem agop_mono {ops : Array Oper} {o : Oper} {K K' : St → Prop} (hK : ∀ s, K s → K' s) {s : St} (h : agop P F noG ops o K s) : agop P F noG ops o K' s := by
  unfold agop at *
  repeat' split at h
  all_goals first | exact hK _ h | exact aop_mono hK h
theorem agop_both {ops : Array Oper} {o : Oper} (hn : notApp o = true) {K K' : St → Prop} {s : St} (h : agop P F noG ops o K s) (h' : agop P F noG ops o K' s) : agop P F noG ops o (fun s => K s ∧ K' s) s := by
  unfold agop at *
  cases hg : o.guard with
  | none =>
    simp only [hg] at *
    exact aop_both hn h h'
  | some q =>
    obtain ⟨j, want⟩ := q
    simp only [hg] at *
    cases hy : yV ops s.tmps j with
    | none =>
      simp only [hy] at *
      exact ⟨h, h'⟩
    | some q =>
      obtain ⟨d, b⟩ := q
      simp only [hy] at *
      cases b <;> cases want <;> first | exact ⟨h, h'⟩ | exact aop_both hn h h'
theorem draw_two (hF : OrcOK P F) {C : Ctx} (hB : Under C.B C.w0) {ops : Array Oper} {x0 : Nat} (hd : drawOK2 ops x0 = true) {Q : Exit → Act → World → Prop} {K : St → Prop} (hQ : ∀ a w, After C K a w → Q .normal a w) :
    ∀ (fuel : Nat) (listed : Array Bool) (s : St) (μ : Mu) (a : Act) (w : World), (remOf ops.size listed).length = fuel → listed.size = ops.size →
      (∀ j oj, ops[j]? = some oj → listed.getD j false = true → ∀ e ∈ oj.after, Region.binds .any e = true → listed.getD e.on false = true) →
      arun P F ops (remOf ops.size listed) K s → (x0 ∈ remOf ops.size listed → x0 + 1 ∈ remOf ops.size listed → arun P F ops ((remOf ops.size listed).map (sw x0)) K s) → RelA C μ s a w → wpAny P .any ops Q fuel listed a w := by
  intro fuel
  induction fuel with
  | zero =>
    intro listed s μ a w hlen hsz hc h h2 hr
    have hnil : remOf ops.size listed = [] := List.eq_nil_of_length_eq_zero hlen
    refine ⟨?_, hQ _ _ ⟨s, μ, by rw [hnil] at h; exact h, hr⟩⟩
    cases hrd : Region.ready .any ops listed with
    | nil => rfl
    | cons x xs =>
      have hx : x ∈ Region.ready .any ops listed := by rw [hrd]; simp
      obtain ⟨h1, o, ho, _⟩ := mem_ready.1 hx
      have : x ∈ remOf ops.size listed := mem_rem.2 ⟨(Array.getElem?_eq_some_iff.1 ho).1, h1⟩
      rw [hnil] at this; simp at this
  | succ fuel ih =>
    intro listed s μ a w hlen hsz hc h h2 hr
    refine ⟨fun h0 => ?_, fun i hi => ?_⟩
    · exfalso
      obtain ⟨x, rest, hx⟩ : ∃ x rest, remOf ops.size listed = x :: rest := by
        cases hrem : remOf ops.size listed with
        | nil => rw [hrem] at hlen; simp at hlen
        | cons x rest => exact ⟨x, rest, rfl⟩
      have hxm : x ∈ remOf ops.size listed := by rw [hx]; simp
      obtain ⟨hxn, hxu⟩ := mem_rem.1 hxm
      have hmin : ∀ y ∈ remOf ops.size listed, x ≤ y := by
        intro y hy
        have hs := rem_sorted ops.size listed
        rw [hx] at hs hy
        rcases List.mem_cons.1 hy with rfl | hy
        · exact Nat.le_refl _
        · exact Nat.le_of_lt ((List.pairwise_cons.1 hs).1 y hy)
      have : x ∈ Region.ready .any ops listed := by
        refine mem_ready.2 ⟨hxu, ops[x], Array.getElem?_eq_getElem hxn, fun e he hb => ?_⟩
        have hlt := drawOK2_back hd (Array.getElem?_eq_getElem hxn) he hb
        cases hl : listed.getD e.on false with
        | true => rfl
        | false =>
          have hin : e.on < listed.size := by omega
          have : listed.getD e.on true = false := by simp [hin] at hl ⊢; exact hl
          have := hmin e.on (mem_rem.2 ⟨by omega, this⟩)
          omega
      rw [h0] at this; simp at this
    · obtain ⟨hiu, o, ho, hall⟩ := mem_ready.1 hi
      have him : i ∈ remOf ops.size listed := mem_rem.2 ⟨(Array.getElem?_eq_some_iff.1 ho).1, hiu⟩
      have hready : ∀ k ∈ remOf ops.size listed, ¬ Anc ops i k := by
        intro k hk hanc
        have := anc_listed hc hanc (fun oj hoj => by
          rw [ho] at hoj; simp only [Option.some.injEq] at hoj; subst hoj; exact hall)
        have h1 := (mem_rem.1 hk).2
        rw [getD_both' this] at h1; simp at h1
      have hsort := rem_sorted ops.size listed
      have hfr : ∀ k ok, Low x0 i k → ops[k]? = some ok → Anc ops i k ∨ (effOp ok.op = false ∧ (effOp o.op = false ∨ isEff o = true ∧ (isNew o = true ∨ stillOp ok.op = true)) ∧ ok.apart ops o = true) :=
        fun k ok hk hok => drawOK2_free hd k i ok o hk.1 hk.2 hok ho
      have hnd : (remOf ops.size listed).Nodup := hsort.imp (fun h => Nat.ne_of_lt h)
      have h1 : agop P F noG ops o (fun s' => arun P F ops ((remOf ops.size listed).erase i) K s' ∧ (x0 ∈ (remOf ops.size listed).erase i → x0 + 1 ∈ (remOf ops.size listed).erase i → arun P F ops (((remOf ops.size listed).erase i).map (sw x0)) K s')) s := by
        generalize remOf ops.size listed = R at *
        by_cases both : x0 ∈ R ∧ x0 + 1 ∈ R
        · obtain ⟨b1, b2⟩ := both
          have hmem : ∀ k ∈ R.map (sw x0), k ∈ R := by
            intro k hk
            obtain ⟨k', hk', rfl⟩ := List.mem_map.1 hk
            by_cases e1 : k' = x0
            · rw [e1, sw_a]; exact b2
            · by_cases e2 : k' = x0 + 1
              · rw [e2, sw_b]; exact b1
              · rw [sw_o e1 e2]; exact hk'
          by_cases i1 : i = x0
          · have g1 := arun_ahead hF hfr ho (ahead_sorted (fun k _ hk => ⟨hk, fun ⟨_, e⟩ => by omega⟩) hsort him) him hready h
            refine agop_mono (fun s' hs => ⟨hs, fun hx => ?_⟩) g1
            rw [i1] at hx
            exact absurd hx (hnd.not_mem_erase)
          · by_cases i2 : i = x0 + 1
            · subst i2
              have g1 := arun_ahead hF hfr ho (ahead_sw' hsort b1) (List.mem_map.2 ⟨x0, b1, sw_a x0⟩) (fun k hk => hready k (hmem k hk)) (h2 b1 b2)
              rw [erase_sw' hsort b1 b2] at g1
              exact agop_mono (fun s' hs => ⟨hs, fun _ hx => absurd hx (hnd.not_mem_erase)⟩) g1
            · have g1 := arun_ahead hF hfr ho (ahead_sorted (fun k _ hk => ⟨hk, fun ⟨_, e⟩ => i2 e⟩) hsort him) him hready h
              have g2 := arun_ahead hF hfr ho (ahead_sw i1 i2 hsort him) (List.mem_map.2 ⟨i, him, sw_o i1 i2⟩) (fun k hk => hready k (hmem k hk)) (h2 b1 b2)
              rw [erase_sw i1 i2] at g2
              exact agop_mono (fun s' hs => ⟨hs.1, fun _ _ => hs.2⟩) (agop_both (drawOK2_app hd ho) g1 g2)
        · have g1 := arun_ahead hF hfr ho (ahead_sorted (fun k hk hlt => ⟨hlt, fun ⟨e1, e2⟩ => both ⟨e1 ▸ hk, e2 ▸ him⟩⟩) hsort him) him hready h
          exact agop_mono (fun s' hs => ⟨hs, fun hx hy => absurd ⟨List.mem_of_mem_erase hx, List.mem_of_mem_erase hy⟩ both⟩) g1
      rw [← rem_erase him] at h1
      refine wpOp_mono (fun a' w' ⟨s', μ', h', hr'⟩ => ih _ s' μ' a' w' ?_ (by simp [hsz]) ?_ h'.1 h'.2 hr') (agop_sound hF (noG_ok P) hB ho h1 hr)
      · rw [rem_erase him, List.length_erase_of_mem him, hlen]; rfl
      · intro j oj hoj hl e he hb
        by_cases hij : i = j
        · subst hij
          rw [ho] at hoj; simp only [Option.some.injEq] at hoj; subst hoj
          exact getD_set_true (hall e he hb)
        · rw [getD_set_ne false hij] at hl
          exact getD_set_true (hc j oj hoj hl e he hb)

theorem arun_of {ops : Array Oper} {K : St → Prop} : ∀ (l : List Nat), aops' P F noG ops l K = arun P F ops l K
  | [] => rfl
  | i :: l => by funext s; simp only [aops', arun, arun_of l]; cases ops[i]? <;> rfl


/-! ### Regions in which callees touch memory -/
def FreeG (ops : Array Oper) : Prop := ∀ i j oi oj, i < j → ops[i]? = some oi → ops[j]? = some oj → Anc ops j i ∨ (stillq oi.op = true ∧ oj.guard = none ∧ oi.apart ops oj = true)
theorem drawG_free {ops : Array Oper} (h : drawG ops = true) : FreeG ops := by
  simp only [drawG, Bool.and_eq_true] at h
  intro i j oi oj hij hi hj
  have hjn : j < ops.size := (Array.getElem?_eq_some_iff.1 hj).1
  have h2 : pairOKG ops (masks ops.toList []) i j = true := allBelow_spec (f := fun i => pairOKG ops (masks ops.toList []) i j) (allBelow_spec (f := fun j => allBelow (fun i => pairOKG ops (masks ops.toList []) i j) j) h.2 hjn) hij
  simp only [pairOKG, hi, hj, Bool.or_eq_true, Bool.and_eq_true, Option.isNone_iff_eq_none] at h2
  rcases h2 with h2 | ⟨⟨h2, h3⟩, h4⟩
  · exact .inl (masks_anc (ops := ops) (l := ops.toList) (acc := []) (fun j => by simp) (fun k i hk => by simp at hk) j i h2)
  · exact .inr ⟨h2, h3, h4⟩
theorem drawG_back {ops : Array Oper} (h : drawG ops = true) {i : Nat} {o : Oper} (hi : ops[i]? = some o) {e : Edge} (he : e ∈ o.after) (hb : Region.binds .any e = true) : e.on < i := by
  simp only [drawG, Bool.and_eq_true] at h
  have h1 := List.all_eq_true.1 h.1 (o, i) (by
    rw [List.mem_zipIdx_iff_getElem?]; simpa using hi)
  have h2 := List.all_eq_true.1 h1 e (by simpa using he)
  simp only [hb, Bool.not_true, Bool.false_or] at h2
  exact bltT.1 h2
theorem stillq_spec {op : Op} (h : stillq op = true) : stillOp op = true ∧ effOp op = false := by
  simpa [stillq] using h
theorem aop_stillG {o : Oper} (ho : stillq o.op = true) (K : St → Prop) (s : St) : aop P F G o K s = aop P F noG o K s := by
  obtain ⟨h1, h2⟩ := stillq_spec ho
  unfold aop
  cases hop : o.op <;> rw [hop] at h1 h2 <;> first | (simp [stillOp] at h1; done) | (simp [effOp] at h2; done) | rfl
theorem agop_stillG {ops : Array Oper} {o : Oper} (ho : stillq o.op = true) {K : St → Prop} {s : St} : agop P F G ops o K s ↔ ∃ v, qv P F ops o s.mem s.tmps = some v ∧ K (s.put o.dst v) := by
  rw [← agop_quiet (stillq_spec ho).2]
  unfold agop
  simp only [aop_stillG ho]
theorem aop_swap {o : Oper} {t m : List V} {d : Nat} {v : V} (hd : ∀ x ∈ o.op.operands, x ≠ .tmp d) {K K' : St → Prop} (hK : ∀ m r, K' (St.put ⟨t, m⟩ o.dst r) = K (St.put ⟨t.set d v, m⟩ o.dst r)) : aop P F G o K ⟨t.set d v, m⟩ = aop P F G o K' ⟨t, m⟩ := by
  unfold aop
  cases hop : o.op <;> rw [hop] at hd
  case alloc ty => simp only [hK]
  case box ty x => simp only [hK, ev_set (hd x (by simp [Op.operands]))]
  case store ty a x => simp only [stA, hK, ev_set (hd a (by simp [Op.operands])), ev_set (hd x (by simp [Op.operands]))]
  case buildSlice ty n ps => simp only [hK, evParts_set (l := ps.toList) (fun p hp => hd p.2 (by simp [Op.operands]; exact ⟨p.1, by simpa using hp⟩))]
  case makeSlice ty a x => simp only [mkA, hK, ev_set (hd a (by simp [Op.operands])), ev_set (hd x (by simp [Op.operands]))]
  case call c =>
    have he : evs (t.set d v) c.args.toList = evs t c.args.toList := evs_set fun x hx => hd x (by simp only [Op.operands, Call.operands, Array.mem_append]; exact .inr (by simpa using hx))
    have ho := opv_set (P := P) (F := F) (m := m) (t := t) (v := v) (op := .call c) hd
    simp only [ho, callA, appA, copA, he, hK]
  all_goals (have ho := opv_set (P := P) (F := F) (m := m) (t := t) (v := v) hd; simp only [ho]; first | rfl | (simp only [← hK]; done) | skip)

theorem agop_none {ops : Array Oper} {o : Oper} (hg : o.guard = none) {K : St → Prop} {s : St} : agop P F G ops o K s = aop P F G o K s := by
  unfold agop
  simp only [hg]
theorem agop_swap {ops : Array Oper} {oi oj : Oper} (hi : stillq oi.op = true) (hg : oj.guard = none) (hap : oi.apart ops oj = true) {K : St → Prop} {s : St} {vi : V} (hv : qv P F ops oi s.mem s.tmps = some vi)
    (h : agop P F G ops oj K (s.put oi.dst vi)) : agop P F G ops oj (agop P F G ops oi K) s := by
  obtain ⟨a1, a2, a3⟩ := Oper.apart_spec hap
  obtain ⟨t, m⟩ := s
  have hK : ∀ m' r, agop P F G ops oi K (St.put ⟨t, m'⟩ oj.dst r) = K ((St.put ⟨t, m'⟩ oi.dst vi).put oj.dst r) := by
    intro m' r
    apply propext
    rw [agop_stillG hi]
    have e : qv P F ops oi (St.put ⟨t, m'⟩ oj.dst r).mem (St.put ⟨t, m'⟩ oj.dst r).tmps = some vi := by
      rw [qv_put a3, ← hv]
      exact qv_still (stillq_spec hi).1
    rw [e]
    constructor
    · rintro ⟨v, hv', hk⟩
      simp only [Option.some.injEq] at hv'; subst hv'
      rw [put_comm a2]; exact hk
    · intro hk
      rw [put_comm a2] at hk
      exact ⟨_, rfl, hk⟩
  rw [agop_none hg] at h ⊢
  cases hd : oi.dst with
  | none =>
    rw [hd] at h hK
    have hs : ∀ (K1 K2 : St → Prop), (∀ m' r, K1 (St.put ⟨t, m'⟩ oj.dst r) = K2 (St.put ⟨t, m'⟩ oj.dst r)) → aop P F G oj K1 ⟨t, m⟩ = aop P F G oj K2 ⟨t, m⟩ := by
      intro K1 K2 h12
      unfold aop
      cases hop : oj.op <;> simp only [stA, mkA, callA, appA, copA, h12]
    rw [hs _ K (fun m' r => by rw [hK]; rfl)]
    exact h
  | some d =>
    rw [hd] at h hK
    have h : aop P F G oj K ⟨t.set d vi, m⟩ := h
    rw [aop_swap (mem_looks (a1 d hd)).1 (K := K) (fun m' r => hK m' r)] at h
    exact h

theorem arunG_ahead {ops : Array Oper} (hf : FreeG ops) {i : Nat} {oi : Oper} (hi : ops[i]? = some oi) {K : St → Prop} :
    ∀ {rem : List Nat} {s : St}, rem.Pairwise (· < ·) → i ∈ rem → (∀ k ∈ rem, ¬ Anc ops i k) → aops' P F G ops rem K s → agop P F G ops oi (aops' P F G ops (rem.erase i) K) s
  | [], _, _, hm, _, _ => by simp at hm
  | k :: rest, s, hp, hm, hready, h => by
    by_cases hki : k = i
    · subst hki
      rw [List.erase_cons_head]
      simpa [aops', hi] using h
    · rw [List.erase_cons_tail (by simpa using hki)]
      have hir : i ∈ rest := by
        rcases List.mem_cons.1 hm with h | h
        · exact absurd h.symm hki
        · exact h
      obtain ⟨hlt, hp2⟩ := List.pairwise_cons.1 hp
      cases hk : ops[k]? with
      | none => simp [aops', hk] at h
      | some ok =>
        obtain ⟨h1, h2, h3⟩ := (hf k i ok oi (hlt i hir) hk hi).resolve_left (hready k (by simp))
        simp only [aops', hk] at h
        obtain ⟨vk, hvk, h⟩ := (agop_stillG h1).1 h
        have ih := arunG_ahead hf hi hp2 hir (fun k hk => hready k (by simp [hk])) h
        have e : (aops' P F G ops (k :: rest.erase i) K) = agop P F G ops ok (aops' P F G ops (rest.erase i) K) := by
          funext s; simp only [aops', hk]
        rw [e]
        exact agop_swap h1 h2 h3 hvk ih

theorem draw_anyG (hF : OrcOK P F) (hG : GOrcOK P G) {C : Ctx} (hB : Under C.B C.w0) {ops : Array Oper} (hd : drawG ops = true) {Q : Exit → Act → World → Prop} {K : St → Prop} (hQ : ∀ a w, After C K a w → Q .normal a w) :
    ∀ (fuel : Nat) (listed : Array Bool) (s : St) (μ : Mu) (a : Act) (w : World), (remOf ops.size listed).length = fuel → listed.size = ops.size →
      (∀ j oj, ops[j]? = some oj → listed.getD j false = true → ∀ e ∈ oj.after, Region.binds .any e = true → listed.getD e.on false = true) →
      aops' P F G ops (remOf ops.size listed) K s → RelA C μ s a w → wpAny P .any ops Q fuel listed a w := by
  intro fuel
  induction fuel with
  | zero =>
    intro listed s μ a w hlen hsz hc h hr
    have hnil : remOf ops.size listed = [] := List.eq_nil_of_length_eq_zero hlen
    refine ⟨?_, hQ _ _ ⟨s, μ, by rw [hnil] at h; exact h, hr⟩⟩
    cases hrd : Region.ready .any ops listed with
    | nil => rfl
    | cons x xs =>
      have hx : x ∈ Region.ready .any ops listed := by rw [hrd]; simp
      obtain ⟨h1, o, ho, _⟩ := mem_ready.1 hx
      have : x ∈ remOf ops.size listed := mem_rem.2 ⟨(Array.getElem?_eq_some_iff.1 ho).1, h1⟩
      rw [hnil] at this; simp at this
  | succ fuel ih =>
    intro listed s μ a w hlen hsz hc h hr
    refine ⟨fun h0 => ?_, fun i hi => ?_⟩
    · exfalso
      obtain ⟨x, rest, hx⟩ : ∃ x rest, remOf ops.size listed = x :: rest := by
        cases hrem : remOf ops.size listed with
        | nil => rw [hrem] at hlen; simp at hlen
        | cons x rest => exact ⟨x, rest, rfl⟩
      have hxm : x ∈ remOf ops.size listed := by rw [hx]; simp
      obtain ⟨hxn, hxu⟩ := mem_rem.1 hxm
      have hmin : ∀ y ∈ remOf ops.size listed, x ≤ y := by
        intro y hy
        have hs := rem_sorted ops.size listed
        rw [hx] at hs hy
        rcases List.mem_cons.1 hy with rfl | hy
        · exact Nat.le_refl _
        · exact Nat.le_of_lt ((List.pairwise_cons.1 hs).1 y hy)
      have : x ∈ Region.ready .any ops listed := by
        refine mem_ready.2 ⟨hxu, ops[x], Array.getElem?_eq_getElem hxn, fun e he hb => ?_⟩
        have hlt := drawG_back hd (Array.getElem?_eq_getElem hxn) he hb
        cases hl : listed.getD e.on false with
        | true => rfl
        | false =>
          have hin : e.on < listed.size := by omega
          have : listed.getD e.on true = false := by simp [hin] at hl ⊢; exact hl
          have := hmin e.on (mem_rem.2 ⟨by omega, this⟩)
          omega
      rw [h0] at this; simp at this
    · obtain ⟨hiu, o, ho, hall⟩ := mem_ready.1 hi
      have him : i ∈ remOf ops.size listed := mem_rem.2 ⟨(Array.getElem?_eq_some_iff.1 ho).1, hiu⟩
      have hready : ∀ k ∈ remOf ops.size listed, ¬ Anc ops i k := by
        intro k hk hanc
        have := anc_listed hc hanc (fun oj hoj => by
          rw [ho] at hoj; simp only [Option.some.injEq] at hoj; subst hoj; exact hall)
        have h1 := (mem_rem.1 hk).2
        rw [getD_both' this] at h1; simp at h1
      have h1 := arunG_ahead (drawG_free hd) ho (rem_sorted ops.size listed) him hready h
      rw [← rem_erase him] at h1
      refine wpOp_mono (fun a' w' ⟨s', μ', h', hr'⟩ => ih _ s' μ' a' w' ?_ (by simp [hsz]) ?_ h' hr') (agop_sound hF hG hB ho h1 hr)
      · rw [rem_erase him, List.length_erase_of_mem him, hlen]; rfl
      · intro j oj hoj hl e he hb
        by_cases hij : i = j
        · subst hij
          rw [ho] at hoj; simp only [Option.some.injEq] at hoj; subst hoj
          exact getD_set_true (hall e he hb)
        · rw [getD_set_ne false hij] at hl
          exact getD_set_true (hc j oj hoj hl e he hb)


/-! ### All orders -/
def memN (i : Nat) : List Nat → Bool
  | [] => false
  | k :: l => Nat.beq i k || memN i l
theorem memN_iff {i : Nat} : ∀ {l : List Nat}, memN i l = true ↔ i ∈ l
  | [] => by simp [memN]
  | k :: l => by
    simp only [memN, Bool.or_eq_true, List.mem_cons, memN_iff (l := l)]
    rw [beqT]
def readyIn (ops : Array Oper) (rem : List Nat) (i : Nat) : Bool :=
  match ops[i]? with
  | some o => o.after.toList.all fun e => !Region.binds .any e || (Nat.blt e.on ops.size && !memN e.on rem)
  | none => false
def allP (f : Nat → Prop) : List Nat → Prop
  | [] => True
  | [i] => f i
  | i :: l => f i ∧ allP f l
theorem allP_mem {f : Nat → Prop} : ∀ {l : List Nat}, allP f l → ∀ i ∈ l, f i
  | [], _, i, hi => by simp at hi
  | [k], h, i, hi => by
    rw [List.mem_singleton] at hi
    subst hi; exact h
  | k :: j :: l, h, i, hi => by
    have h : f k ∧ allP f (j :: l) := h
    rcases List.mem_cons.1 hi with rfl | hi
    · exact h.1
    · exact allP_mem h.2 i hi
/-- Every order in which the region may come: all are gone over. -/
def anyG (P : Program) (F : Orc) (G : GOrc) (ops : Array Oper) : Nat → List Nat → (St → Prop) → St → Prop
  | 0, _, K, s => K s
  | n + 1, rem, K, s => match rem.filter (readyIn ops rem) with
    | [] => False
    | i :: l => allP (fun i => match ops[i]? with
      | some o => agop P F G ops o (anyG P F G ops n (rem.erase i) K) s
      | none => False) (i :: l)
def sliced (P : Program) (o : Oper) : Bool :=
  match o.op with
  | .call c => match c.callee with
    | .value (.func _) => match P.underlying o.type with
      | some (.slice _) => true
      | _ => false
    | _ => false
  | _ => false
/-- Does a callee here answer a slice? -/
def wantsG (P : Program) (ops : Array Oper) : Bool := ops.toList.any (sliced P)
theorem readyIn_iff {ops : Array Oper} {listed : Array Bool} (hsz : listed.size = ops.size) {i : Nat} (hi : i ∈ remOf ops.size listed) : readyIn ops (remOf ops.size listed) i = true ↔ i ∈ Region.ready .any ops listed := by
  have key : ∀ k, (Nat.blt k ops.size && !memN k (remOf ops.size listed)) = true ↔ listed.getD k false = true := by
    intro k
    rw [Bool.and_eq_true, bltT, Bool.not_eq_true', ← Bool.not_eq_true, memN_iff, mem_rem]
    constructor
    · rintro ⟨h1, h2⟩
      have h3 : listed.getD k true = true := by
        cases h : listed.getD k true with
        | true => rfl
        | false => exact absurd ⟨h1, h⟩ h2
      have hk : k < listed.size := by omega
      simp [hk] at h3 ⊢
      exact h3
    · intro h
      have hk : k < listed.size := by
        rcases Nat.lt_or_ge k listed.size with h' | h'
        · exact h'
        · simp [Array.getElem?_eq_none h'] at h
      refine ⟨by omega, fun hn => ?_⟩
      rw [getD_both' h] at hn
      cases hn.2
  obtain ⟨hin, hiu⟩ := mem_rem.1 hi
  rw [mem_ready]
  unfold readyIn
  rw [Array.getElem?_eq_getElem hin]
  dsimp only
  constructor
  · intro h
    refine ⟨hiu, ops[i], rfl, fun e he hb => ?_⟩
    have := List.all_eq_true.1 h e (by simpa using he)
    rw [hb, Bool.not_true, Bool.false_or] at this
    exact (key e.on).1 this
  · rintro ⟨_, o, ho, hall⟩
    simp only [Option.some.injEq] at ho
    subst ho
    refine List.all_eq_true.2 fun e he => ?_
    cases hb : Region.binds .any e with
    | false => rfl
    | true =>
      rw [Bool.not_true, Bool.false_or]
      exact (key e.on).2 (hall e (by simpa using he) hb)
theorem draw_all (hF : OrcOK P F) (hG : GOrcOK P G) {C : Ctx} (hB : Under C.B C.w0) {ops : Array Oper} {Q : Exit → Act → World → Prop} {K : St → Prop} (hQ : ∀ a w, After C K a w → Q .normal a w) :
    ∀ (fuel : Nat) (listed : Array Bool) (s : St) (μ : Mu) (a : Act) (w : World), (remOf ops.size listed).length = fuel → listed.size = ops.size →
      anyG P F G ops fuel (remOf ops.size listed) K s → RelA C μ s a w → wpAny P .any ops Q fuel listed a w := by
  intro fuel
  induction fuel with
  | zero =>
    intro listed s μ a w hlen hsz h hr
    have hnil : remOf ops.size listed = [] := List.eq_nil_of_length_eq_zero hlen
    refine ⟨?_, hQ _ _ ⟨s, μ, h, hr⟩⟩
    cases hrd : Region.ready .any ops listed with
    | nil => rfl
    | cons x xs =>
      have hx : x ∈ Region.ready .any ops listed := by rw [hrd]; simp
      obtain ⟨h1, o, ho, _⟩ := mem_ready.1 hx
      have : x ∈ remOf ops.size listed := mem_rem.2 ⟨(Array.getElem?_eq_some_iff.1 ho).1, h1⟩
      rw [hnil] at this; simp at this
  | succ fuel ih =>
    intro listed s μ a w hlen hsz h hr
    simp only [anyG] at h
    split at h
    · exact h.elim
    · rename_i x l hl
      refine ⟨fun h0 => ?_, fun i hi => ?_⟩
      · exfalso
        have hx : x ∈ (remOf ops.size listed).filter (readyIn ops (remOf ops.size listed)) := by rw [hl]; simp
        rw [List.mem_filter] at hx
        have := (readyIn_iff hsz hx.1).1 hx.2
        rw [h0] at this; simp at this
      · obtain ⟨hiu, o, ho, hall⟩ := mem_ready.1 hi
        have him : i ∈ remOf ops.size listed := mem_rem.2 ⟨(Array.getElem?_eq_some_iff.1 ho).1, hiu⟩
        have hf : i ∈ (remOf ops.size listed).filter (readyIn ops (remOf ops.size listed)) := List.mem_filter.2 ⟨him, (readyIn_iff hsz him).2 hi⟩
        rw [hl] at hf
        have h1 := allP_mem h i hf
        simp only [ho] at h1
        rw [← rem_erase him] at h1
        refine wpOp_mono (fun a' w' ⟨s', μ', h', hr'⟩ => ih _ s' μ' a' w' ?_ (by simp [hsz]) h' hr') (agop_sound hF hG hB ho h1 hr)
        rw [rem_erase him, List.length_erase_of_mem him, hlen]; rfl
/-! ### One order for what does not meet -/
/-- It reads memory at most: it makes nothing and calls nobody. -/
def rdq (op : Op) : Bool := match op with
  | .call _ => false
  | op => !effOp op
theorem rdq_eff {op : Op} (h : rdq op = true) : effOp op = false := by
  cases op <;> first | (simp [rdq] at h; done) | (simpa [rdq] using h)
theorem aop_rdqG {o : Oper} (ho : rdq o.op = true) (K : St → Prop) (s : St) : aop P F G o K s = aop P F noG o K s := by
  unfold aop
  cases hop : o.op <;> rw [hop] at ho <;> first | (simp [rdq] at ho; done) | (simp [rdq, effOp] at ho; done) | rfl
theorem agop_rdqG {ops : Array Oper} {o : Oper} (ho : rdq o.op = true) {K : St → Prop} {s : St} : agop P F G ops o K s ↔ ∃ v, qv P F ops o s.mem s.tmps = some v ∧ K (s.put o.dst v) := by
  rw [← agop_quiet (rdq_eff ho)]
  unfold agop
  simp only [aop_rdqG ho]
theorem agop_effG {ops : Array Oper} {o : Oper} (ho : isEff o = true) {K : St → Prop} {s : St} : agop P F G ops o K s ↔ ∃ m v, effV P s.mem s.tmps o.op = some (m, v) ∧ K (St.put ⟨s.tmps, m⟩ o.dst v) := by
  rw [← agop_eff (F := F) (ops := ops) ho]
  unfold isEff at ho
  split at ho
  · rfl
  · rfl
  · rfl
  · cases ho
/-- Is it told of a callee that it is the F's alone? (F answers so when it is asked by the callee's own name.) -/
def quietF (F : Orc) (f : FuncId) : Bool := match F f [.fn f] [] with
  | some (false, .bool true) => true
  | _ => false
/-- Such callees are asked of F alone. -/
def gQ (F : Orc) (G : GOrc) : GOrc := fun f vs m K => match quietF F f with
  | true => False
  | false => G f vs m K
def NoQ (F : Orc) (G : GOrc) : Prop := ∀ f vs m K, quietF F f = true → ¬ G f vs m K
theorem gQ_no (F : Orc) (G : GOrc) : NoQ F (gQ F G) := fun f vs m K h hk => by unfold gQ at hk; rw [h] at hk; exact hk
theorem gQ_ok (hG : GOrcOK P G) : GOrcOK P (gQ F G) := by
  intro f vs m K h
  unfold gQ at h
  split at h
  · exact h.elim
  · exact hG f vs m K h
/-- The F's callees told as such: all of fs. -/
def markF (fs : List Nat) (F : Orc) : Orc := fun f vs m => match vs with
  | [.fn g] => match Nat.beq g f && memN f fs with
    | true => some (false, .bool true)
    | false => F f vs m
  | _ => F f vs m
theorem markF_ok {fs : List Nat} (hF : OrcOK P F) : OrcOK P (markF fs F) := by
  obtain ⟨h1, h2⟩ := hF
  refine ⟨fun f vs m v hv => ?_, fun f vs m z r hv => ?_⟩
  · unfold markF at hv
    split at hv
    · split at hv
      · simp at hv
      · exact h1 _ _ _ _ hv
    · exact h1 _ _ _ _ hv
  · unfold markF at hv ⊢
    split at hv
    · split at hv
      · exact hv
      · exact h2 _ _ _ _ _ hv
    · exact h2 _ _ _ _ _ hv
/-- It reads memory at most: it makes nothing and calls nobody but the F's. -/
def rdqF (F : Orc) (op : Op) : Bool := match op with
  | .call c => match c.callee with
    | .value (.func f) => quietF F f
    | _ => false
  | op => !effOp op
theorem rdqF_eff {op : Op} (h : rdqF F op = true) : effOp op = false := by
  cases op <;> first
    | (simpa [rdqF] using h)
    | (rename_i c; unfold rdqF at h; dsimp only at h; unfold effOp; dsimp only; split at h
       · rename_i hc; rw [hc]
       · cases h)
theorem aop_rdqF (hQ : NoQ F G) {o : Oper} (ho : rdqF F o.op = true) (K : St → Prop) (s : St) : aop P F G o K s = aop P F noG o K s := by
  unfold aop
  cases hop : o.op
  case call c =>
    rw [hop] at ho
    unfold rdqF at ho
    dsimp only at ho ⊢
    split at ho
    · rename_i f hc
      have e : callA P G o c K s = callA P noG o c K s := by
        unfold callA
        rw [hc]
        dsimp only
        split
        · exact propext ⟨fun h => (hQ _ _ _ _ ho h).elim, fun h => h.elim⟩
        · rfl
      rw [e]
    · cases ho
  all_goals first | rfl | (rw [hop] at ho; simp [rdqF, effOp] at ho; done)
theorem agop_rdqF (hQ : NoQ F G) {ops : Array Oper} {o : Oper} (ho : rdqF F o.op = true) {K : St → Prop} {s : St} : agop P F G ops o K s ↔ ∃ v, qv P F ops o s.mem s.tmps = some v ∧ K (s.put o.dst v) := by
  rw [← agop_quiet (rdqF_eff ho)]
  unfold agop
  simp only [aop_rdqF hQ ho]
/-- What a callee is asked, or less. -/
def clG (G : GOrc) : GOrc := fun f vs m K => ∃ K0 : V → List V → Prop, (∀ v m', K0 v m' → K v m') ∧ G f vs m K0
theorem clG_no (h : NoQ F G) : NoQ F (clG G) := fun f vs m K hf ⟨_, _, hk⟩ => h f vs m _ hf hk
theorem clG_ok (hG : GOrcOK P G) : GOrcOK P (clG G) := by
  intro f vs m K ⟨K0, hk, h⟩ C μ w args hB hm ha
  obtain ⟨h1, h2⟩ := hG f vs m K0 h C μ w args hB hm ha
  exact ⟨h1, h2.mono fun e w' ⟨v, m', μ1, val, h3, h4⟩ => ⟨v, m', μ1, val, hk _ _ h3, h4⟩⟩
theorem appA_mono {o : Oper} {c : Call} {K K' : St → Prop} (hK : ∀ s, K s → K' s) {s : St} (h : appA P o c K s) : appA P o c K' s := by
  unfold appA gd at *
  repeat' split at h
  all_goals first | exact hK _ h | exact h.elim | (intro cap hc; have h := h cap hc; revert h; split; · exact fun h => hK _ h
                                                   · exact fun h => h) | (simp_all; done) | skip
theorem copA_mono {o : Oper} {c : Call} {K K' : St → Prop} (hK : ∀ s, K s → K' s) {s : St} (h : copA P o c K s) : copA P o c K' s := by
  unfold copA gd at *
  repeat' split at h
  all_goals first | exact hK _ h | exact h.elim | (simp_all; done) | skip
theorem gd_mono {g : Bool} {A B : Prop} (h : A → B) : gd g A → gd g B := by cases g <;> simp [gd] <;> exact h
theorem aop_cl {o : Oper} {K K' : St → Prop} (hK : ∀ s, K s → K' s) {s : St} (h : aop P F G o K s) : aop P F (clG G) o K' s := by
  cases hop : o.op
  case call c =>
    have e : ∀ (G' : GOrc) (K2 : St → Prop), aop P F G' o K2 s = (match opv P F s.mem s.tmps (.call c) with | some (g, v) => gd g (K2 (s.put o.dst v)) | none => callA P G' o c K2 s) := fun _ _ => by
      unfold aop; rw [hop]; try rfl
    rw [e] at h ⊢
    cases hv : opv P F s.mem s.tmps (.call c) with
    | some p => rw [hv] at h; exact gd_mono (hK _) h
    | none =>
      rw [hv] at h
      dsimp only at h ⊢
      unfold callA at h ⊢
      split at h
      · split at h
        · exact ⟨_, fun v m hk => hK _ hk, h⟩
        · exact h.elim
      · exact appA_mono hK h
      · exact copA_mono hK h
      · exact h.elim
  all_goals
    have e : ∀ (G' : GOrc) (K2 : St → Prop), aop P F G' o K2 s = aop P F noG o K2 s := fun _ _ => by
      unfold aop; rw [hop]; try rfl
    rw [e] at h ⊢
    exact aop_mono hK h
theorem agop_cl {ops : Array Oper} {o : Oper} {K K' : St → Prop} (hK : ∀ s, K s → K' s) {s : St} (h : agop P F G ops o K s) : agop P F (clG G) ops o K' s := by
  unfold agop at *
  repeat' split at h
  all_goals first | exact hK _ h | exact aop_cl hK h
/-- Does a slice stand in a value of the type? -/
def hasSl (P : Program) : Nat → TypeId → Bool
  | 0, _ => false
  | n + 1, t => match P.underlying t with
    | some (.slice _) => true
    | some (.struct fs) => fs.toList.any fun f => hasSl P n f.type
    | some (.tuple ts) => ts.toList.any fun t => hasSl P n t
    | _ => false
/-- Does a callee here answer a value in which a slice stands? -/
def wantsR (P : Program) (ops : Array Oper) : Bool := ops.toList.any fun o => match o.op with
  | .call c => match c.callee with
    | .value (.func _) => hasSl P 4 o.type
    | _ => false
  | _ => false
/-- So; or: F tells its own callees (it is asked by the number 1000000), and another is called here. -/
def wantsQ (P : Program) (F : Orc) (ops : Array Oper) : Bool := wantsR P ops || (quietF F 1000000 && ops.toList.any fun o => match o.op with
  | .call c => match c.callee with
    | .value (.func f) => !quietF F f
    | _ => false
  | _ => false)
/-- i may come first: what may come ahead of it does not meet it. -/
def ampOK (F : Orc) (ops : Array Oper) (ms rem : List Nat) (i : Nat) : Bool :=
  match ops[i]? with
  | some oi => rdqF F oi.op && (readyIn ops rem i && rem.all fun j => Nat.beq j i || (ms.getD j 0).testBit i || (match ops[j]? with
    | some oj => (((isEff oj && (isNew oj || stillOp oi.op)) || rdqF F oj.op) || (stillq oi.op && oj.guard.isNone)) && oi.apart ops oj
    | none => false))
  | none => false
def ampOf (F : Orc) (ops : Array Oper) (ms rem : List Nat) : Option Nat := rem.find? (ampOK F ops ms rem)
/-- The orders in which the region may come, but for those that change nothing. -/
def pru (P : Program) (F : Orc) (G : GOrc) (ops : Array Oper) (ms : List Nat) : Nat → List Nat → (St → Prop) → St → Prop
  | 0, _, K, s => K s
  | n + 1, rem, K, s => match ampOf F ops ms rem with
    | some i => match ops[i]? with
      | some o => agop P F (gQ F G) ops o (pru P F G ops ms n (rem.erase i) K) s
      | none => False
    | none => match rem.filter (readyIn ops rem) with
      | [] => False
      | i :: l => allP (fun i => match ops[i]? with
        | some o => agop P F (gQ F G) ops o (pru P F G ops ms n (rem.erase i) K) s
        | none => False) (i :: l)
/-- Nothing behind what is gone over is still to come. -/
def Closed (ops : Array Oper) (rem : List Nat) : Prop := ∀ j i, Anc ops j i → i ∈ rem → j ∈ rem
theorem ready_anc {ops : Array Oper} {rem : List Nat} (hc : Closed ops rem) {k i : Nat} (hk : readyIn ops rem k = true) (hi : i ∈ rem) : ¬ Anc ops k i := by
  unfold readyIn at hk
  split at hk
  · rename_i o ho
    have key : ∀ e ∈ o.after, Region.binds .any e = true → e.on ∉ rem := by
      intro e he hb hm
      have := List.all_eq_true.1 hk e (by simpa using he)
      simp only [hb, Bool.not_true, Bool.false_or, Bool.and_eq_true, Bool.not_eq_true'] at this
      rw [(memN_iff).2 hm] at this
      exact absurd this.2 (by simp)
    intro ha
    cases ha with
    | step h1 h2 h3 =>
      rw [ho] at h1; simp only [Option.some.injEq] at h1; subst h1
      exact key _ h2 h3 hi
    | next h1 h2 h3 h4 =>
      rw [ho] at h1; simp only [Option.some.injEq] at h1; subst h1
      exact key _ h2 h3 (hc _ _ h4 hi)
  · cases hk
theorem closed_erase {ops : Array Oper} {rem : List Nat} (hn : rem.Nodup) (hc : Closed ops rem) {k : Nat} (hk : readyIn ops rem k = true) : Closed ops (rem.erase k) := by
  intro j i ha hi
  rw [hn.mem_erase_iff] at hi ⊢
  exact ⟨fun e => ready_anc hc hk hi.2 (e ▸ ha), hc j i ha hi.2⟩
theorem ready_erase {ops : Array Oper} {rem : List Nat} {i k : Nat} (h : readyIn ops rem k = true) : readyIn ops (rem.erase i) k = true := by
  unfold readyIn at h ⊢
  split
  · rename_i o ho
    rw [ho] at h
    dsimp only at h
    refine List.all_eq_true.2 fun e he => ?_
    have := List.all_eq_true.1 h e he
    simp only [Bool.or_eq_true, Bool.and_eq_true, Bool.not_eq_true'] at this ⊢
    rcases this with h | ⟨h1, h2⟩
    · exact .inl h
    · refine .inr ⟨h1, ?_⟩
      cases hm : memN e.on (rem.erase i) with
      | false => rfl
      | true =>
        have := List.mem_of_mem_erase (memN_iff.1 hm)
        rw [memN_iff.2 this] at h2; cases h2
  · rename_i ho; rw [ho] at h; exact h
theorem anyG_mk {ops : Array Oper} {n : Nat} {rem : List Nat} {K : St → Prop} {s : St} {i : Nat} (hi : i ∈ rem) (hr : readyIn ops rem i = true)
    (h : ∀ k ∈ rem, readyIn ops rem k = true → ∃ o, ops[k]? = some o ∧ agop P F G ops o (anyG P F G ops n (rem.erase k) K) s) : anyG P F G ops (n + 1) rem K s := by
  simp only [anyG]
  split
  · rename_i he
    have := List.mem_filter.2 ⟨hi, hr⟩
    rw [he] at this; cases this
  · rename_i x l he
    have key : ∀ k ∈ x :: l, (match ops[k]? with | some o => agop P F G ops o (anyG P F G ops n (rem.erase k) K) s | none => False) := by
      intro k hk
      rw [← he] at hk
      obtain ⟨h1, h2⟩ := List.mem_filter.1 hk
      obtain ⟨o, ho, h3⟩ := h k h1 h2
      rw [ho]; exact h3
    have mk : ∀ {f : Nat → Prop} {l : List Nat}, (∀ k ∈ l, f k) → allP f l := by
      intro f l
      induction l with
      | nil => intro _; exact trivial
      | cons a l ih =>
        intro hf
        cases l with
        | nil => exact hf a (by simp)
        | cons b l => exact ⟨hf a (by simp), ih fun k hk => hf k (by simp [hk])⟩
    exact mk key
theorem anyG_get {ops : Array Oper} {n : Nat} {rem : List Nat} {K : St → Prop} {s : St} (h : anyG P F G ops (n + 1) rem K s) {k : Nat} (hk : k ∈ rem) (hr : readyIn ops rem k = true) :
    ∃ o, ops[k]? = some o ∧ agop P F G ops o (anyG P F G ops n (rem.erase k) K) s := by
  simp only [anyG] at h
  have hf := List.mem_filter.2 ⟨hk, hr⟩
  split at h
  · exact h.elim
  · rename_i x l he
    rw [he] at hf
    have := allP_mem h k hf
    split at this
    · rename_i o ho; exact ⟨o, ho, this⟩
    · exact this.elim
theorem clG_idem : clG (clG G) = clG G := by
  funext f vs m K
  apply propext
  constructor
  · rintro ⟨K0, h0, K1, h1, h2⟩; exact ⟨K1, fun v m' h => h0 v m' (h1 v m' h), h2⟩
  · rintro ⟨K0, h0, h1⟩; exact ⟨K, fun _ _ h => h, K0, h0, h1⟩
/-- What may come first, comes first. -/
theorem any_first (hF : OrcOK P F) (hQ : NoQ F G) {ops : Array Oper} {i : Nat} {oi : Oper} (hi : ops[i]? = some oi) (hq : rdqF F oi.op = true) {K : St → Prop} :
    ∀ (n : Nat) (rem : List Nat) (s : St), rem.length = n + 1 → rem.Nodup → Closed ops rem → i ∈ rem → readyIn ops rem i = true →
      (∀ j ∈ rem, j ≠ i → Anc ops j i ∨ ∃ oj, ops[j]? = some oj ∧ (((isEff oj = true ∧ (isNew oj = true ∨ stillOp oi.op = true)) ∨ rdqF F oj.op = true) ∨ (stillq oi.op = true ∧ oj.guard = none)) ∧ oi.apart ops oj = true) →
      agop P F (clG G) ops oi (anyG P F (clG G) ops n (rem.erase i) K) s → anyG P F (clG G) ops (n + 1) rem K s := by
  intro n
  induction n with
  | zero =>
    intro rem s hl hn hc him hr hf h
    refine anyG_mk him hr fun k hk hkr => ?_
    have : k = i := by
      match rem, hl, him, hk with
      | [x], _, h1, h2 => simp only [List.mem_singleton] at h1 h2; rw [h1, h2]
    subst this
    exact ⟨oi, hi, h⟩
  | succ n ih =>
    intro rem s hl hn hc him hr hf h
    refine anyG_mk him hr fun k hk hkr => ?_
    by_cases hki : k = i
    · subst hki; exact ⟨oi, hi, h⟩
    obtain ⟨ok, hok, hkind, hap⟩ := (hf k hk hki).resolve_left (ready_anc hc hkr him)
    obtain ⟨a1, a2, a3⟩ := Oper.apart_spec hap
    obtain ⟨vi, hvi, h⟩ := (agop_rdqF (clG_no hQ) hq).1 h
    obtain ⟨ok', hok', h⟩ := anyG_get h (hn.mem_erase_iff.2 ⟨hki, hk⟩) (ready_erase hkr)
    rw [hok] at hok'; simp only [Option.some.injEq] at hok'; subst hok'
    refine ⟨ok, hok, ?_⟩
    have hnk : (rem.erase k).Nodup := hn.erase k
    have him' : i ∈ rem.erase k := hn.mem_erase_iff.2 ⟨fun e => hki e.symm, him⟩
    have hlk : (rem.erase k).length = n + 1 := by rw [List.length_erase_of_mem hk, hl]; rfl
    have hfk : ∀ j ∈ rem.erase k, j ≠ i → Anc ops j i ∨ ∃ oj, ops[j]? = some oj ∧ (((isEff oj = true ∧ (isNew oj = true ∨ stillOp oi.op = true)) ∨ rdqF F oj.op = true) ∨ (stillq oi.op = true ∧ oj.guard = none)) ∧ oi.apart ops oj = true := fun j hj => hf j (List.mem_of_mem_erase hj)
    have hcomm : (rem.erase i).erase k = (rem.erase k).erase i := List.erase_comm i k
    rw [hcomm] at h
    rcases hkind with (⟨hkind, hst⟩ | hkind) | ⟨hst, hgn⟩
    · obtain ⟨m', vk, hvk, h⟩ := (agop_effG hkind).1 h
      have hm : (s.put oi.dst vi).mem = s.mem := by cases oi.dst <;> rfl
      have hnn : effV P s.mem (s.put oi.dst vi).tmps ok.op = effV P s.mem s.tmps ok.op := by
        cases hd : oi.dst with
        | none => rfl
        | some d => exact effV_set (mem_looks (a1 d hd)).1
      rw [hm, hnn] at hvk
      refine (agop_effG hkind).2 ⟨m', vk, hvk, ih _ _ hlk hnk (closed_erase hn hc hkr) him' (ready_erase hr) hfk ((agop_rdqF (clG_no hQ) hq).2 ⟨vi, ?_, ?_⟩)⟩
      · rw [qv_put a3]
        rcases hst with hst | hst
        · obtain ⟨z, rfl⟩ := effV_new hst hvk
          exact qv_grow hF hvi
        · rw [qv_still (m := m') (m' := s.mem) hst]; exact hvi
      · have e : (⟨(s.put oi.dst vi).tmps, m'⟩ : St) = St.put ⟨s.tmps, m'⟩ oi.dst vi := by cases oi.dst <;> rfl
        rw [e, put_comm a2] at h
        exact h
    · obtain ⟨vk, hvk, h⟩ := (agop_rdqF (clG_no hQ) hkind).1 h
      rw [qv_put a1] at hvk
      refine (agop_rdqF (clG_no hQ) hkind).2 ⟨vk, hvk, ih _ _ hlk hnk (closed_erase hn hc hkr) him' (ready_erase hr) hfk ((agop_rdqF (clG_no hQ) hq).2 ⟨vi, by rw [qv_put a3]; exact hvi, ?_⟩)⟩
      rw [← put_comm a2]; exact h
    · have h2 := agop_swap hst hgn hap hvi h
      have h3 := agop_cl (G := clG G) (K' := anyG P F (clG G) ops (n + 1) (rem.erase k) K) (fun s' hs' => ih _ s' hlk hnk (closed_erase hn hc hkr) him' (ready_erase hr) hfk hs') h2
      rw [clG_idem] at h3
      exact h3
theorem pru_any (hF : OrcOK P F) {ops : Array Oper} {K : St → Prop} : ∀ (n : Nat) (rem : List Nat) (s : St), rem.length = n → rem.Nodup → Closed ops rem →
    pru P F G ops (masks ops.toList []) n rem K s → anyG P F (clG (gQ F G)) ops n rem K s := by
  intro n
  induction n with
  | zero => intro rem s _ _ _ h; exact h
  | succ n ih =>
    intro rem s hl hn hc h
    simp only [pru] at h
    split at h
    · rename_i i ha
      have hmem := List.mem_of_find?_eq_some ha
      have hok := List.find?_some ha
      split at h
      · rename_i oi hi
        simp only [ampOK, hi, Bool.and_eq_true] at hok
        obtain ⟨hq, hr, hall⟩ := hok
        refine any_first hF (gQ_no F G) hi hq n rem s hl hn hc hmem hr (fun j hj hji => ?_) (agop_cl (fun s' hs' => ih _ s' (by rw [List.length_erase_of_mem hmem, hl]; rfl) (hn.erase i) (closed_erase hn hc hr) hs') h)
        have := List.all_eq_true.1 hall j hj
        simp only [Bool.or_eq_true] at this
        rcases this with (h1 | h1) | h1
        · exact absurd (beqT.1 h1) hji
        · exact .inl (masks_anc (ops := ops) (l := ops.toList) (acc := []) (fun j => by simp) (fun k i hk => by simp at hk) j i h1)
        · split at h1
          · rename_i oj hoj
            simp only [Bool.and_eq_true, Bool.or_eq_true, Option.isNone_iff_eq_none] at h1
            exact .inr ⟨oj, hoj, h1.1, h1.2⟩
          · cases h1
      · exact h.elim
    · split at h
      · exact h.elim
      · rename_i x l he
        have hx : x ∈ rem.filter (readyIn ops rem) := by rw [he]; simp
        obtain ⟨x1, x2⟩ := List.mem_filter.1 hx
        refine anyG_mk x1 x2 fun k hk hkr => ?_
        have hf := List.mem_filter.2 ⟨hk, hkr⟩
        rw [he] at hf
        have h1 := allP_mem h k hf
        split at h1
        · rename_i o ho
          exact ⟨o, ho, agop_cl (fun s' hs' => ih _ s' (by rw [List.length_erase_of_mem hk, hl]; rfl) (hn.erase k) (closed_erase hn hc hkr) hs') h1⟩
        · exact h1.elim
theorem anc_lt {ops : Array Oper} {j i : Nat} (h : Anc ops j i) : j < ops.size := by
  cases h with
  | step h1 _ _ => exact (Array.getElem?_eq_some_iff.1 h1).1
  | next h1 _ _ _ => exact (Array.getElem?_eq_some_iff.1 h1).1
theorem draw_pru (hF : OrcOK P F) (hG : GOrcOK P G) {C : Ctx} (hB : Under C.B C.w0) {ops : Array Oper} {Q : Exit → Act → World → Prop} {K : St → Prop} (hQ : ∀ a w, After C K a w → Q .normal a w) {s : St} {μ : Mu} {a : Act} {w : World}
    (h : pru P F G ops (masks ops.toList []) ops.size (List.range ops.size) K s) (hr : RelA C μ s a w) : wpAny P .any ops Q ops.size (Array.replicate ops.size false) a w := by
  have hrem : remOf ops.size (Array.replicate ops.size false) = List.range ops.size := by
    unfold remOf
    rw [List.filter_eq_self.2]
    intro x hx
    have := List.mem_range.1 hx
    simp [this]
  have h2 := pru_any hF ops.size _ s (by simp) List.nodup_range (fun j i ha _ => List.mem_range.2 (anc_lt ha)) h
  exact draw_all hF (clG_ok (gQ_ok hG)) hB hQ ops.size _ s μ a w (by rw [hrem]; simp) (by simp) (by rw [hrem]; exact h2) hr
end
end Go.Ev
