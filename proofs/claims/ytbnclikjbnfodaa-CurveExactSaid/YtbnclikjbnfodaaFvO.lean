/-
  Blocks that are forgotten at a loop's head, by program. Conditions: none.
-/
import Derived.Test.YtbnclikjbnfodaaFvN
namespace Go.Ev

mutual
/-- The same value by the places of its blocks in 'ids'; none, if it names another block. -/
def V.pl (ids : List Nat) : V → Option V
  | .ptr id off => match posOf ids id 0 with | some p => some (.ptr p off) | none => none
  | .sl id off len cap => match posOf ids id 0 with | some p => some (.sl p off len cap) | none => none
  | .agg l => match V.pls ids l with | some l' => some (.agg l') | none => none
  | .tup l => match V.pls ids l with | some l' => some (.tup l') | none => none
  | .int k n => some (.int k n)
  | .bool b => some (.bool b)
  | .str s => some (.str s)
  | .nil => some .nil
  | .snil => some .snil
  | .ints k n f => some (.ints k n f)
  | .bools n f => some (.bools n f)
  | .fn f => some (.fn f)
  | .wild a => some (.wild a)
  | .wsl a n c => some (.wsl a n c)
  | .val v => some (.val v)
  | .raw n g => some (.raw n g)
def V.pls (ids : List Nat) : List V → Option (List V)
  | [] => some []
  | v :: l => match v.pl ids with
    | some v' => match V.pls ids l with
      | some l' => some (v' :: l')
      | none => none
    | none => none
end
mutual
theorem pl_den {ids : List Nat} {μ ν : Mu} (h : ∀ j, j < ids.length → ν j = μ (ids.getD j 0)) : ∀ {v v' : V}, v.pl ids = some v' → v'.den ν = v.den μ
  | .ptr id off, v', e => by
    simp only [V.pl] at e
    split at e
    · rename_i p hp
      simp only [Option.some.injEq] at e; subst e
      obtain ⟨_, h2⟩ := posOf_some hp
      rw [Nat.sub_zero] at h2
      have hl := (List.getElem?_eq_some_iff.1 h2).1
      simp only [V.den, h p hl, List.getD_eq_getElem?_getD, h2, Option.getD_some]
    · cases e
  | .sl id off len cap, v', e => by
    simp only [V.pl] at e
    split at e
    · rename_i p hp
      simp only [Option.some.injEq] at e; subst e
      obtain ⟨_, h2⟩ := posOf_some hp
      rw [Nat.sub_zero] at h2
      have hl := (List.getElem?_eq_some_iff.1 h2).1
      simp only [V.den, h p hl, List.getD_eq_getElem?_getD, h2, Option.getD_some]
    · cases e
  | .agg l, v', e => by
    simp only [V.pl] at e
    split at e
    · rename_i l' hl
      simp only [Option.some.injEq] at e; subst e
      simp only [V.den, pls_den h hl]
    · cases e
  | .tup l, v', e => by
    simp only [V.pl] at e
    split at e
    · rename_i l' hl
      simp only [Option.some.injEq] at e; subst e
      simp only [V.den, pls_den h hl]
    · cases e
  | .int _ _, v', e | .bool _, v', e | .str _, v', e | .nil, v', e | .snil, v', e | .ints _ _ _, v', e | .bools _ _, v', e | .fn _, v', e | .wild _, v', e | .wsl _ _ _, v', e | .val _, v', e | .raw _ _, v', e => by
    simp only [V.pl, Option.some.injEq] at e
    subst e
    simp only [V.den]
theorem pls_den {ids : List Nat} {μ ν : Mu} (h : ∀ j, j < ids.length → ν j = μ (ids.getD j 0)) : ∀ {l l' : List V}, V.pls ids l = some l' → V.dens ν l' = V.dens μ l
  | [], l', e => by simp only [V.pls, Option.some.injEq] at e; subst e; rfl
  | v :: l, l', e => by
    simp only [V.pls] at e
    split at e
    · rename_i v' hv
      split at e
      · rename_i l2 hl
        simp only [Option.some.injEq] at e; subst e
        simp only [V.dens, pl_den h hv, pls_den h hl]
      · cases e
    · cases e
end
/-- A value that is kept, or of which nothing is asked any more. -/
def V.keep (ids : List Nat) (μ : Mu) (v : V) : V := match v.pl ids with
  | some v' => v'
  | none => V.any (v.den μ)
theorem keep_den {ids : List Nat} {μ ν : Mu} (h : ∀ j, j < ids.length → ν j = μ (ids.getD j 0)) (v : V) : (v.keep ids μ).den ν = v.den μ := by
  unfold V.keep
  split
  · rename_i v' hv; exact pl_den h hv
  · exact any_den ν _
/-- A block that is kept: one that is only read names no block. -/
def V.keepB (ids : List Nat) (v : V) : Option V := match roOf v with
  | some u => match u.flat with | true => some v | false => none
  | none => match v.pl ids with
    | some v' => match roOf v' with | none => some v' | some _ => none
    | none => none
def gcMem (ids : List Nat) (m : List V) : List Nat → Option (List V)
  | [] => some []
  | i :: l => match m[i]? with
    | some v => match v.keepB ids with
      | some v' => match gcMem ids m l with
        | some m' => some (v' :: m')
        | none => none
      | none => none
    | none => none
theorem gcMem_spec {ids : List Nat} {m : List V} : ∀ {l : List Nat} {m' : List V}, gcMem ids m l = some m' → m'.length = l.length ∧ ∀ (j : Nat) (v' : V), m'[j]? = some v' → ∃ v, m[l.getD j 0]? = some v ∧ v.keepB ids = some v'
  | [], m', h => by simp only [gcMem, Option.some.injEq] at h; subst h; exact ⟨rfl, fun j v' h => by simp at h⟩
  | i :: l, m', h => by
    simp only [gcMem] at h
    split at h
    · rename_i v hv
      split at h
      · rename_i v' hk
        split at h
        · rename_i m2 hm
          simp only [Option.some.injEq] at h; subst h
          obtain ⟨h1, h2⟩ := gcMem_spec hm
          refine ⟨by simp [h1], fun j u hj => ?_⟩
          cases j with
          | zero =>
            simp only [List.getElem?_cons_zero, Option.some.injEq] at hj
            subst hj
            exact ⟨v, by simpa using hv, hk⟩
          | succ j =>
            simp only [List.getElem?_cons_succ] at hj
            obtain ⟨v2, h3, h4⟩ := h2 j u hj
            exact ⟨v2, by simpa using h3, h4⟩
        · cases h
      · cases h
    · cases h
def idsOK (n0 : Nat) : List Nat → Nat → Bool
  | [], j => Nat.ble n0 j
  | i :: l, j => (Nat.ble n0 j || Nat.beq i j) && idsOK n0 l (j + 1)
theorem idsOK_spec {n0 : Nat} : ∀ {l : List Nat} {j : Nat}, idsOK n0 l j = true → n0 ≤ j + l.length ∧ ∀ i, i < l.length → i + j < n0 → l.getD i 0 = i + j
  | [], j, h => ⟨bleT.1 h, fun i hi => by simp at hi⟩
  | x :: l, j, h => by
    simp only [idsOK, Bool.and_eq_true, Bool.or_eq_true] at h
    obtain ⟨h1, h2⟩ := idsOK_spec h.2
    refine ⟨by simp; omega, fun i hi hn => ?_⟩
    cases i with
    | zero =>
      rcases h.1 with h | h
      · have := bleT.1 h; omega
      · have := beqT.1 h; simp [this]
    | succ i =>
      simp only [List.length_cons] at hi
      have := h2 i (by omega) (by omega)
      simp only [List.getD_cons_succ]
      omega
/-- The state by fewer blocks. -/
theorem gc_of {n0 : Nat} {μ : Mu} {s : St} (ids : List Nat) {m2 : List V} (hm : gcMem ids s.mem ids = some m2) (hn : nodupB ids = true) (h0 : idsOK n0 ids 0 = true) :
    Gc n0 μ s ⟨s.tmps.map (V.keep ids μ), m2⟩ := by
  obtain ⟨g1, g2⟩ := gcMem_spec hm
  obtain ⟨i1, i2⟩ := idsOK_spec h0
  refine ⟨ids, nodupB_ok hn, fun i hi => ?_, g1, ⟨by omega, fun i hi => by have := i2 i (by omega) (by omega); simpa using this⟩, fun ν hν => ⟨?_, fun j v2 hj => ?_⟩⟩
  · obtain ⟨j, hj⟩ := List.getElem?_of_mem hi
    have hl := (List.getElem?_eq_some_iff.1 hj).1
    obtain ⟨v, h1, _⟩ := g2 j _ (List.getElem?_eq_getElem (by omega))
    have := (List.getElem?_eq_some_iff.1 h1).1
    rwa [List.getD_eq_getElem?_getD, hj] at this
  · rw [List.map_map]
    exact List.map_congr_left fun v _ => keep_den hν v
  · obtain ⟨v, h1, h2⟩ := g2 j v2 hj
    refine ⟨v, h1, ?_⟩
    unfold V.keepB at h2
    split at h2
    · rename_i u hu
      split at h2
      · rename_i hf
        simp only [Option.some.injEq] at h2; subst h2
        refine ⟨rfl, rfl, ?_⟩
        unfold strip
        rw [hu]
        exact flat_den hf μ ν
      · cases h2
    · rename_i hu
      split at h2
      · rename_i v' hv
        split at h2
        · rename_i hv'
          simp only [Option.some.injEq] at h2; subst h2
          refine ⟨by rw [hu, hv'], ?_, ?_⟩
          · have t : ∀ x : V, roOf x = none → tagOf x = none := by
              intro x hx
              cases ht : tagOf x with
              | none => rfl
              | some g => obtain ⟨u, hu⟩ := tag_ro ht; rw [hx] at hu; cases hu
            rw [t _ hu, t _ hv']
          · unfold strip
            rw [hu, hv']
            exact pl_den hν hv
        · cases h2
      · cases h2
theorem mB_imp {b : Bool} {A B A' B' : Prop} (ha : A → A') (hb : B → B') (h : mB b A B) : mB b A' B' := by
  cases b
  · unfold mB at *; exact hb h
  · unfold mB at *; exact ha h
theorem gB_imp {b : Bool} {A A' : Prop} (ha : A → A') (h : gB b A) : gB b A' := by
  cases b
  · unfold gB at h; exact h.elim
  · unfold gB at *; exact ha h
theorem cast_lp {n0 : Nat} {b : (Exit → St → Prop) → St → Prop} {Q : Exit → St → Prop} {m : Nat} {s s' : St} (e : s = s') (h : lpW n0 b Q m s') : lpW n0 b Q m s := by rw [e]; exact h
theorem cast_lp1 {b : (Exit → St → Prop) → St → Prop} {Q : Exit → St → Prop} {m : Nat} {s s' : St} (e : s = s') (h : lp b Q m s') : lp b Q m s := by rw [e]; exact h
/-- Room for c, the first k cells told. -/
def Has {α : Type} (k c : Nat) (D hh : Nat → α) : Prop := k ≤ c ∧ ∀ j, j < k → hh j = D j
theorem has_first {α : Type} {c : Nat} {D f g : Nat → α} {x z : α} (hc : 1 ≤ c) (hx : x = D 0) : Has 1 c D (ap 0 1 f (up 0 x g) z) := by
  refine ⟨hc, fun j hj => ?_⟩
  obtain rfl : j = 0 := by omega
  show up 0 x g 0 = D 0
  rw [up_at, if_pos rfl, hx]
theorem has_room {α : Type} {k c : Nat} {D hh g : Nat → α} {x : α} (h : Has k c D hh) (hc : k + 1 ≤ c) (hx : x = D k) : Has (k + 1) c D (spl (0 + k) 1 c (up 0 x g) hh) := by
  refine ⟨hc, fun j hj => ?_⟩
  rw [spl_at _ _ _ _ _ _ (by omega)]
  by_cases e : j = k
  · subst e
    rw [if_pos (by omega), up_at, if_pos (by omega), hx]
  · rw [if_neg (by omega), h.2 j (by omega)]
theorem has_grow {α : Type} {k c : Nat} {D hh g : Nat → α} {x z : α} (h : ∀ j, j < k → hh j = D j) (hc : k + 1 ≤ c) (hx : x = D k) : Has (k + 1) c D (ap k 1 (sh 0 hh) (up 0 x g) z) := by
  refine ⟨hc, fun j hj => ?_⟩
  unfold ap
  by_cases e : j < k
  · rw [bltT.2 e, cond_true, sh_at, Nat.zero_add, h j e]
  · obtain rfl : j = k := by omega
    rw [ff bltT e, cond_false, bltT.2 (by omega), cond_true, Nat.sub_self, up_at, if_pos rfl, hx]
theorem ble_t {a b : Nat} (h : a ≤ b) : Nat.ble a b = true := bleT.2 h
theorem gb1 {k c : Nat} (h1 : k ≤ c) (h2 : k + 1 ≤ 1048576) : (Nat.ble (0 + k) c && Nat.ble (k + 1) 1048576) = true := by rw [bleT.2 (by omega), bleT.2 h2]; rfl
/-- What stands behind a round of a loop whose head may forget. -/
def nxt (n0 : Nat) (b : (Exit → St → Prop) → St → Prop) (Q : Exit → St → Prop) (m : Nat) : Exit → St → Prop := fun e s' => match e with
  | .normal => ∀ μ : Mu, ∃ s2, Gc n0 μ s' s2 ∧ lpW n0 b Q m s2
  | e => Q e s'
/-- The same code without its first loop. -/
def dropLoop : Code → Code
  | .seq a b => bif hasLoop a then .seq (dropLoop a) b else .seq a (dropLoop b)
  | .cond x a b => bif hasLoop a then .cond x (dropLoop a) b else .cond x a (dropLoop b)
  | .block i c => .block i (dropLoop c)
  | .loop _ => .skip
  | .scope c => .scope (dropLoop c)
  | c => c
end Go.Ev
