/-
  Callees in a small memory of their own: windows that they only read, blocks that they may write; what they leave, seen by the caller. Conditions: none.
-/
import Derived.Test.YtbnclikjbnfodaaFvI
namespace Go.Ev
open RowKit (Below)

/-! ### Renaming -/
mutual
/-- The same value, its blocks named anew. -/
def V.ren (ρ : Nat → Nat) : V → V
  | .ptr id off => .ptr (ρ id) off
  | .sl id off len cap => .sl (ρ id) off len cap
  | .agg l => .agg (V.rens ρ l)
  | .tup l => .tup (V.rens ρ l)
  | .int k n => .int k n
  | .bool b => .bool b
  | .str s => .str s
  | .nil => .nil
  | .snil => .snil
  | .ints k n f => .ints k n f
  | .bools n f => .bools n f
  | .fn f => .fn f
  | .wild a => .wild a
  | .wsl a n c => .wsl a n c
  | .val v => .val v
  | .raw n g => .raw n g
def V.rens (ρ : Nat → Nat) : List V → List V
  | [] => []
  | v :: l => v.ren ρ :: V.rens ρ l
end
mutual
theorem ren_den (ρ : Nat → Nat) (μ : Mu) : ∀ v : V, (v.ren ρ).den μ = v.den fun j => μ (ρ j)
  | .ptr _ _ => by simp [V.ren, V.den]
  | .sl _ _ _ _ => by simp [V.ren, V.den]
  | .agg l => by simp only [V.ren, V.den, rens_den ρ μ l]
  | .tup l => by simp only [V.ren, V.den, rens_den ρ μ l]
  | .int _ _ => by simp [V.ren, V.den]
  | .bool _ => by simp [V.ren, V.den]
  | .str _ => by simp [V.ren, V.den]
  | .nil => by simp [V.ren, V.den]
  | .snil => by simp [V.ren, V.den]
  | .ints _ _ _ => by simp [V.ren, V.den]
  | .bools _ _ => by simp [V.ren, V.den]
  | .fn _ => by simp [V.ren, V.den]
  | .wild _ => by simp [V.ren, V.den]
  | .wsl _ _ _ => by simp [V.ren, V.den]
  | .val _ => by simp [V.ren, V.den]
  | .raw _ _ => by simp [V.ren, V.den]
theorem rens_den (ρ : Nat → Nat) (μ : Mu) : ∀ l : List V, V.dens μ (V.rens ρ l) = V.dens (fun j => μ (ρ j)) l
  | [] => rfl
  | v :: l => by simp only [V.rens, V.dens, ren_den ρ μ v, rens_den ρ μ l]
end
theorem rens_map (ρ : Nat → Nat) : ∀ l, V.rens ρ l = l.map (V.ren ρ)
  | [] => rfl
  | v :: l => by simp [V.rens, rens_map ρ l]
theorem ren_own (ρ : Nat → Nat) {v : V} (h : roOf v = none) : roOf (v.ren ρ) = none := by
  cases v <;> try rfl
  rename_i l
  match l, h with
  | [], _ => rfl
  | [u], h => simp [roOf] at h
  | [a, b], h =>
    cases a <;> first | rfl | (simp [roOf] at h)
  | a :: b :: c :: l, _ => simp [V.ren, V.rens, roOf]

/-! ### What a callee is handed -/
def posOf : List Nat → Nat → Nat → Option Nat
  | [], _, _ => none
  | j :: l, id, p => match Nat.beq j id with | true => some p | false => posOf l id (p + 1)
theorem posOf_some : ∀ {l : List Nat} {id p q : Nat}, posOf l id p = some q → p ≤ q ∧ l[q - p]? = some id
  | [], _, _, _, h => by simp [posOf] at h
  | j :: l, id, p, q, h => by
    unfold posOf at h
    split at h
    · rename_i hb
      simp only [Option.some.injEq] at h; subst h
      exact ⟨Nat.le_refl _, by simp [beqT.1 hb]⟩
    · obtain ⟨h1, h2⟩ := posOf_some h
      refine ⟨by omega, ?_⟩
      rw [show q - p = q - (p + 1) + 1 by omega, List.getElem?_cons_succ]; exact h2
theorem posOf_none : ∀ {l : List Nat} {id p : Nat}, posOf l id p = none → id ∉ l
  | [], _, _, _ => by simp
  | j :: l, id, p, h => by
    unfold posOf at h
    split at h
    · cases h
    · rename_i hb
      have := posOf_none h
      intro hm
      rcases List.mem_cons.1 hm with rfl | hm
      · rw [beqT.2 rfl] at hb; cases hb
      · exact this hm
/-- What stands in a block from a place on. -/
def win (m : List V) (id off : Nat) : Option V := match m[id]? with
  | some c => match strip c with
    | .ints kd N f => some (.ints kd (N - off) (sh off f))
    | .bools N f => some (.bools (N - off) (sh off f))
    | _ => none
  | none => none
mutual
/-- A value as the callee names it: blocks of 'own' from 'ob' on, each other slice a window of its own, from k on. -/
def vw (m : List V) (own : List Nat) (ob : Nat) : V → Nat → Option (V × List V)
  | .ptr id off, _ => match posOf own id 0 with | some p => some (.ptr (ob + p) off, []) | none => none
  | .sl id off len cap, k => match posOf own id 0 with
    | some p => some (.sl (ob + p) off len cap, [])
    | none => match win m id off with | some u => some (.sl k 0 len cap, [.tup [u]]) | none => none
  | .agg l, k => match vws m own ob l k with | some (as, ro) => some (.agg as, ro) | none => none
  | .tup l, k => match vws m own ob l k with | some (as, ro) => some (.tup as, ro) | none => none
  | .int k n, _ => some (.int k n, [])
  | .bool b, _ => some (.bool b, [])
  | .str s, _ => some (.str s, [])
  | .nil, _ => some (.nil, [])
  | .snil, _ => some (.snil, [])
  | .ints k n f, _ => some (.ints k n f, [])
  | .bools n f, _ => some (.bools n f, [])
  | .fn f, _ => some (.fn f, [])
  | .wild a, _ => some (.wild a, [])
  | .wsl a n c, _ => some (.wsl a n c, [])
  | .val v, _ => some (.val v, [])
  | .raw n g, _ => some (.raw n g, [])
def vws (m : List V) (own : List Nat) (ob : Nat) : List V → Nat → Option (List V × List V)
  | [], _ => some ([], [])
  | v :: l, k => match vw m own ob v k with
    | some (a, r1) => match vws m own ob l (k + r1.length) with
      | some (as, r2) => some (a :: as, r1 ++ r2)
      | none => none
    | none => none
end
theorem win_grow {m : List V} {id off : Nat} {z u : V} (h : win m id off = some u) : win (m ++ [z]) id off = some u := by
  unfold win at h ⊢
  cases hm : m[id]? with
  | none => rw [hm] at h; cases h
  | some c =>
    rw [hm] at h
    rw [List.getElem?_append, if_pos (List.getElem?_eq_some_iff.1 hm).1, hm]
    exact h
mutual
theorem vw_grow {m : List V} {own : List Nat} {ob : Nat} {z : V} : ∀ {v : V} {k : Nat} {r : V × List V}, vw m own ob v k = some r → vw (m ++ [z]) own ob v k = some r
  | .ptr _ _, _, _, h => by simpa only [vw] using h
  | .sl id off len cap, k, r, h => by
    simp only [vw] at h ⊢
    split at h
    · exact h
    · split at h
      · rename_i u hu; rw [win_grow hu]; exact h
      · cases h
  | .agg l, k, r, h => by
    simp only [vw] at h ⊢
    split at h
    · rename_i as ro hl; rw [vws_grow hl]; exact h
    · cases h
  | .tup l, k, r, h => by
    simp only [vw] at h ⊢
    split at h
    · rename_i as ro hl; rw [vws_grow hl]; exact h
    · cases h
  | .int _ _, _, _, h => by simpa only [vw] using h
  | .bool _, _, _, h => by simpa only [vw] using h
  | .str _, _, _, h => by simpa only [vw] using h
  | .nil, _, _, h => by simpa only [vw] using h
  | .snil, _, _, h => by simpa only [vw] using h
  | .ints _ _ _, _, _, h => by simpa only [vw] using h
  | .bools _ _, _, _, h => by simpa only [vw] using h
  | .fn _, _, _, h => by simpa only [vw] using h
  | .wild _, _, _, h => by simpa only [vw] using h
  | .wsl _ _ _, _, _, h => by simpa only [vw] using h
  | .val _, _, _, h => by simpa only [vw] using h
  | .raw _ _, _, _, h => by simpa only [vw] using h
theorem vws_grow {m : List V} {own : List Nat} {ob : Nat} {z : V} : ∀ {l : List V} {k : Nat} {r : List V × List V}, vws m own ob l k = some r → vws (m ++ [z]) own ob l k = some r
  | [], _, _, h => by simpa only [vws] using h
  | v :: l, k, r, h => by
    simp only [vws] at h ⊢
    split at h
    · rename_i a r1 h1
      rw [vw_grow h1]
      dsimp only
      split at h
      · rename_i as r2 h2
        rw [vws_grow h2]; exact h
      · cases h
    · cases h
end

/-- Others' blocks, as a callee sees them: all that there are but those that it may write. -/
def offB (μ : Mu) (own : List Nat) (w : World) : Blk := fun k => k < w.heap.size ∧ ∀ id ∈ own, k ≠ (μ id).1
theorem off_under (μ : Mu) (own : List Nat) (w : World) : Under (offB μ own w) w := fun _ h => h.1

/-- All blocks of 'own' are blocks of the caller's. -/
def ownC (m : List V) : List Nat → Option (List V)
  | [] => some []
  | id :: l => match m[id]? with
    | some c => match roOf c with
      | none => match ownC m l with | some cs => some (c :: cs) | none => none
      | some _ => none
    | none => none
theorem ownC_spec {m : List V} : ∀ {l : List Nat} {cs : List V}, ownC m l = some cs → cs.length = l.length ∧ ∀ (p : Nat) (id : Nat), l[p]? = some id → ∃ c, m[id]? = some c ∧ roOf c = none ∧ cs[p]? = some c
  | [], cs, h => by simp [ownC] at h; subst h; exact ⟨rfl, fun p id hp => by simp at hp⟩
  | id :: l, cs, h => by
    unfold ownC at h
    split at h
    · rename_i c hc
      split at h
      · rename_i hr
        split at h
        · rename_i cs' hl
          simp only [Option.some.injEq] at h; subst h
          obtain ⟨h1, h2⟩ := ownC_spec hl
          refine ⟨by simp [h1], fun p i hp => ?_⟩
          cases p with
          | zero => simp only [List.getElem?_cons_zero, Option.some.injEq] at hp; subst hp; exact ⟨c, hc, hr, rfl⟩
          | succ p =>
            simp only [List.getElem?_cons_succ] at hp ⊢
            exact h2 p i hp
        · cases h
      · cases h
    · cases h

section
variable {μ : Mu} {B : Blk} {w0 w : World} {m : List V}
theorem Rel.apart (hr : Rel μ B w0 m w) {i j : Nat} {c d : V} (hi : m[i]? = some c) (hc : roOf c = none) (hj : m[j]? = some d) (hne : j ≠ i) : (μ j).1 ≠ (μ i).1 := by
  intro e
  have ho := ((hr.hold i c hi).own hc).1
  exact hne (hr.inj i j (List.getElem?_eq_some_iff.1 hi).1 (List.getElem?_eq_some_iff.1 hj).1 ho e.symm).symm
theorem Rel.off (hr : Rel μ B w0 m w) {own : List Nat} {cs : List V} (ho : ownC m own = some cs) {j : Nat} {d : V} (hj : m[j]? = some d) (hn : j ∉ own) : offB μ own w (μ j).1 := by
  refine ⟨(hr.hold j d hj).lt, fun id hid => ?_⟩
  obtain ⟨p, hp⟩ := List.getElem?_of_mem hid
  obtain ⟨c, h1, h2, _⟩ := (ownC_spec ho).2 p id hp
  exact hr.apart h1 h2 hj (fun e => hn (e ▸ hid))

/-- A window in a block that is held. -/
theorem window {id off : Nat} {c u : V} {B' : Blk} (h : Held μ B w id c) (hu : ∀ j x, (u.den μ).cells[j]? = some x → ((strip c).den μ).cells[off + j]? = some x) {ν : Mu} {k : Nat} (hν : ν k = ((μ id).1, (μ id).2 + off)) (hflat : u.den ν = u.den μ) (hB : B' (μ id).1) :
    Held ν B' w k (.tup [u]) := by
  unfold Held
  show B' (ν k).1 ∧ (ν k).1 < w.heap.size ∧ _
  rw [hν]
  refine ⟨hB, h.lt, fun g hg => by cases u <;> simp [tagOf] at hg, fun j x hx => ?_⟩
  rw [hflat] at hx
  have := h.cell (hu j x hx)
  rw [Nat.add_assoc]
  exact this
theorem win_held (hr : Rel μ B w0 m w) {own : List Nat} {cs : List V} (ho : ownC m own = some cs) {id off : Nat} {u : V} (h : win m id off = some u) (hn : id ∉ own) {ν : Mu} {k : Nat} (hν : ν k = ((μ id).1, (μ id).2 + off)) : Held ν (offB μ own w) w k (.tup [u]) := by
  unfold win at h
  split at h
  · rename_i c hc
    split at h
    · rename_i kd N f hs
      simp only [Option.some.injEq] at h; subst h
      refine window (hr.hold id c hc) (fun j x hx => ?_) hν (by simp [V.den]) (hr.off ho hc hn)
      rw [hs]
      rw [cells_ints] at hx ⊢
      simp only [List.getElem?_toArray, List.getElem?_map, Option.map_eq_some_iff] at hx ⊢
      obtain ⟨i, hi, rfl⟩ := hx
      obtain ⟨h1, h2⟩ := List.getElem?_eq_some_iff.1 hi
      simp at h1 h2
      subst h2
      exact ⟨off + j, by rw [List.getElem?_range (by omega)], by rw [sh_at]⟩
    · rename_i N f hs
      simp only [Option.some.injEq] at h; subst h
      refine window (hr.hold id c hc) (fun j x hx => ?_) hν (by simp [V.den]) (hr.off ho hc hn)
      rw [hs]
      rw [cells_bools] at hx ⊢
      simp only [List.getElem?_toArray, List.getElem?_map, Option.map_eq_some_iff] at hx ⊢
      obtain ⟨i, hi, rfl⟩ := hx
      obtain ⟨h1, h2⟩ := List.getElem?_eq_some_iff.1 hi
      simp at h1 h2
      subst h2
      exact ⟨off + j, by rw [List.getElem?_range (by omega)], by rw [sh_at]⟩
    · cases h
  · cases h

mutual
theorem vw_ok (hr : Rel μ B w0 m w) {own : List Nat} {cs : List V} (ho : ownC m own = some cs) {ob : Nat} : ∀ {v : V} {k : Nat} {a : V} {r : List V}, vw m own ob v k = some (a, r) →
    ∃ L : List (Nat × Nat), L.length = r.length ∧ (∀ x ∈ r, ∃ u, x = .tup [u]) ∧ ∀ ν : Mu, (∀ p id, own[p]? = some id → ν (ob + p) = μ id) → (∀ j x, L[j]? = some x → ν (k + j) = x) →
      (∀ j x, r[j]? = some x → Held ν (offB μ own w) w (k + j) x) ∧ a.den ν = v.den μ
  | .ptr id off, k, a, r, h => by
    simp only [vw] at h
    split at h
    · rename_i p hp
      simp only [Option.some.injEq, Prod.mk.injEq] at h
      obtain ⟨rfl, rfl⟩ := h
      obtain ⟨_, h2⟩ := posOf_some hp
      refine ⟨[], rfl, fun x hx => by simp at hx, fun ν hν _ => ⟨fun j x hx => by simp at hx, ?_⟩⟩
      simp only [V.den, hν p id (by simpa using h2)]
    · cases h
  | .sl id off len cap, k, a, r, h => by
    simp only [vw] at h
    split at h
    · rename_i p hp
      simp only [Option.some.injEq, Prod.mk.injEq] at h
      obtain ⟨rfl, rfl⟩ := h
      obtain ⟨_, h2⟩ := posOf_some hp
      refine ⟨[], rfl, fun x hx => by simp at hx, fun ν hν _ => ⟨fun j x hx => by simp at hx, ?_⟩⟩
      simp only [V.den, hν p id (by simpa using h2)]
    · rename_i hp
      split at h
      · rename_i u hu
        simp only [Option.some.injEq, Prod.mk.injEq] at h
        obtain ⟨rfl, rfl⟩ := h
        refine ⟨[((μ id).1, (μ id).2 + off)], rfl, fun x hx => ⟨u, by simpa using hx⟩, fun ν _ hL => ?_⟩
        have h0 : ν k = ((μ id).1, (μ id).2 + off) := hL 0 _ rfl
        refine ⟨fun j x hx => ?_, by simp only [V.den, h0, Nat.add_zero]⟩
        cases j with
        | zero =>
          simp only [List.getElem?_cons_zero, Option.some.injEq] at hx
          subst hx
          exact win_held hr ho hu (posOf_none hp) h0
        | succ j => simp at hx
      · cases h
  | .agg l, k, a, r, h => by
    simp only [vw] at h
    split at h
    · rename_i as ro hl
      simp only [Option.some.injEq, Prod.mk.injEq] at h
      obtain ⟨rfl, rfl⟩ := h
      obtain ⟨L, h1, h2, h3⟩ := vws_ok hr ho hl
      refine ⟨L, h1, h2, fun ν hν hL => ?_⟩
      obtain ⟨h4, h5⟩ := h3 ν hν hL
      exact ⟨h4, by simp only [V.den, dens_map, h5]⟩
    · cases h
  | .tup l, k, a, r, h => by
    simp only [vw] at h
    split at h
    · rename_i as ro hl
      simp only [Option.some.injEq, Prod.mk.injEq] at h
      obtain ⟨rfl, rfl⟩ := h
      obtain ⟨L, h1, h2, h3⟩ := vws_ok hr ho hl
      refine ⟨L, h1, h2, fun ν hν hL => ?_⟩
      obtain ⟨h4, h5⟩ := h3 ν hν hL
      exact ⟨h4, by simp only [V.den, dens_map, h5]⟩
    · cases h
  | .int _ _, k, a, r, h | .bool _, k, a, r, h | .str _, k, a, r, h | .nil, k, a, r, h | .snil, k, a, r, h | .ints _ _ _, k, a, r, h | .bools _ _, k, a, r, h | .fn _, k, a, r, h | .wild _, k, a, r, h | .wsl _ _ _, k, a, r, h | .val _, k, a, r, h | .raw _ _, k, a, r, h => by
    simp only [vw, Option.some.injEq, Prod.mk.injEq] at h
    obtain ⟨rfl, rfl⟩ := h
    exact ⟨[], rfl, fun x hx => by simp at hx, fun ν _ _ => ⟨fun j x hx => by simp at hx, by simp only [V.den]⟩⟩
theorem vws_ok (hr : Rel μ B w0 m w) {own : List Nat} {cs : List V} (ho : ownC m own = some cs) {ob : Nat} : ∀ {l : List V} {k : Nat} {as r : List V}, vws m own ob l k = some (as, r) →
    ∃ L : List (Nat × Nat), L.length = r.length ∧ (∀ x ∈ r, ∃ u, x = .tup [u]) ∧ ∀ ν : Mu, (∀ p id, own[p]? = some id → ν (ob + p) = μ id) → (∀ j x, L[j]? = some x → ν (k + j) = x) →
      (∀ j x, r[j]? = some x → Held ν (offB μ own w) w (k + j) x) ∧ as.map (V.den ν) = l.map (V.den μ)
  | [], k, as, r, h => by
    simp only [vws, Option.some.injEq, Prod.mk.injEq] at h
    obtain ⟨rfl, rfl⟩ := h
    exact ⟨[], rfl, fun x hx => by simp at hx, fun ν _ _ => ⟨fun j x hx => by simp at hx, rfl⟩⟩
  | v :: l, k, as, r, h => by
    simp only [vws] at h
    split at h
    · rename_i a r1 h1
      split at h
      · rename_i as' r2 h2
        simp only [Option.some.injEq, Prod.mk.injEq] at h
        obtain ⟨rfl, rfl⟩ := h
        obtain ⟨L1, l1, t1, k1⟩ := vw_ok hr ho h1
        obtain ⟨L2, l2, t2, k2⟩ := vws_ok hr ho h2
        refine ⟨L1 ++ L2, by simp [l1, l2], fun x hx => ?_, fun ν hν hL => ?_⟩
        · rcases List.mem_append.1 hx with hx | hx
          · exact t1 x hx
          · exact t2 x hx
        obtain ⟨a1, a2⟩ := k1 ν hν (fun j x hx => hL j x (by rw [List.getElem?_append_left (List.getElem?_eq_some_iff.1 hx).1]; exact hx))
        obtain ⟨b1, b2⟩ := k2 ν hν (fun j x hx => by
          have := hL (L1.length + j) x (by rw [List.getElem?_append_right (by omega)]; simpa using hx)
          rwa [l1, ← Nat.add_assoc] at this)
        refine ⟨fun j x hx => ?_, by simp only [List.map_cons, a2, b2]⟩
        rw [List.getElem?_append] at hx
        split at hx
        · exact a1 j x hx
        · rename_i hj
          have := b1 (j - r1.length) x hx
          rwa [show k + r1.length + (j - r1.length) = k + j by omega] at this
      · cases h
    · cases h
end
end

/-- The package variables that a callee looks at. -/
def glob : List Nat → List V → Option (List V)
  | [], _ => some []
  | g :: gs, m => match findG g m 0 with
    | some id => match m[id]? with
      | some c => match (strip c).flat with
        | true => match glob gs m with
          | some l => some (c :: l)
          | none => none
        | false => none
      | none => none
    | none => none
theorem glob_grow : ∀ {gs : List Nat} {m : List V} {z : V} {r : List V}, glob gs m = some r → glob gs (m ++ [z]) = some r
  | [], _, _, _, h => h
  | g :: gs, m, z, r, h => by
    have tail : ∀ {r : List V}, glob gs m = some r → glob gs (m ++ [z]) = some r := fun h => glob_grow h
    unfold glob at h ⊢
    cases hf : findG g m 0 with
    | none => rw [hf] at h; cases h
    | some id =>
      rw [hf] at h
      rw [findG_grow hf]
      dsimp only at h ⊢
      cases hm : m[id]? with
      | none => rw [hm] at h; cases h
      | some c =>
        have hlt := (List.getElem?_eq_some_iff.1 hm).1
        rw [hm] at h
        rw [List.getElem?_append, if_pos hlt, hm]
        dsimp only at h ⊢
        cases hb : (strip c).flat with
        | false => rw [hb] at h; cases h
        | true =>
          rw [hb] at h
          dsimp only at h ⊢
          cases ht : glob gs m with
          | none => rw [ht] at h; cases h
          | some l => rw [ht] at h; rw [tail ht]; exact h
theorem glob_rel {μ : Mu} {B : Blk} {w0 w : World} {m : List V} (hr : Rel μ B w0 m w) {own : List Nat} {cs : List V} (ho : ownC m own = some cs) : ∀ {gs : List Nat} {gl : List V} {k : Nat}, glob gs m = some gl →
    gl.length = gs.length ∧ (∀ v ∈ gl, ∃ u, roOf v = some u) ∧ ∀ ν : Mu, (∀ (j g : Nat), gs[j]? = some g → ν (k + j) = (g, 0)) → ∀ j v, gl[j]? = some v → Held ν (offB μ own w) w (k + j) v
  | [], gl, k, h => by
    simp only [glob, Option.some.injEq] at h
    subst h
    exact ⟨rfl, fun v hv => by simp at hv, fun ν _ j v hv => by simp at hv⟩
  | g :: gs, gl, k, h => by
    unfold glob at h
    cases hf : findG g m 0 with
    | none => rw [hf] at h; cases h
    | some id =>
      rw [hf] at h
      dsimp only at h
      cases hm : m[id]? with
      | none => rw [hm] at h; cases h
      | some c =>
        rw [hm] at h
        dsimp only at h
        cases hb : (strip c).flat with
        | false => rw [hb] at h; cases h
        | true =>
          rw [hb] at h
          dsimp only at h
          cases ht : glob gs m with
          | none => rw [ht] at h; cases h
          | some l =>
            rw [ht] at h
            simp only [Option.some.injEq] at h
            subst h
            obtain ⟨v', _, h2, h3⟩ := findG_spec hf
            rw [Nat.sub_zero, hm] at h2
            simp only [Option.some.injEq] at h2
            subst h2
            obtain ⟨u, hu⟩ := tag_ro h3
            have hμ := hr.global hf
            have hh := hr.hold id c hm
            have hn : id ∉ own := by
              intro hid
              obtain ⟨p, hp⟩ := List.getElem?_of_mem hid
              obtain ⟨c', h1, h2, _⟩ := (ownC_spec ho).2 p id hp
              rw [hm] at h1; cases h1
              rw [hu] at h2; cases h2
            have hoff := hr.off ho hm hn
            obtain ⟨l1, l2, l3⟩ := glob_rel hr ho (k := k + 1) ht
            refine ⟨by simp [l1], fun v hv => ?_, fun ν hν j v hv => ?_⟩
            · rcases List.mem_cons.1 hv with rfl | hv
              · exact ⟨u, hu⟩
              · exact l2 v hv
            · cases j with
              | zero =>
                simp only [List.getElem?_cons_zero, Option.some.injEq] at hv
                subst hv
                have h0 : ν k = (g, 0) := hν 0 g rfl
                have hlt := hh.lt
                unfold Held at hh ⊢
                unfold strip at hb
                rw [hu] at hh hb ⊢
                dsimp only at hh hb ⊢
                rw [Nat.add_zero, h0]
                rw [hμ] at hh hlt hoff
                refine ⟨hoff, hlt, fun g' hg' => ?_, fun j x hx => ?_⟩
                · rw [h3] at hg'; cases hg'; rfl
                · rw [flat_den hb μ ν] at hx
                  exact hh.2.2.2 j x hx
              | succ j =>
                have := l3 ν (fun j' g' hg' => by
                  have := hν (j' + 1) g' (by simpa using hg')
                  rwa [show k + (j' + 1) = k + 1 + j' by omega] at this) j v (by simpa using hv)
                rwa [show k + 1 + j = k + (j + 1) by omega] at this

def nodupB : List Nat → Bool
  | [] => true
  | x :: l => match posOf l x 0 with | some _ => false | none => nodupB l
theorem nodupB_ok : ∀ {l : List Nat}, nodupB l = true → l.Nodup
  | [], _ => List.nodup_nil
  | x :: l, h => by
    unfold nodupB at h
    split at h
    · cases h
    · rename_i hp
      exact List.nodup_cons.2 ⟨posOf_none hp, nodupB_ok h⟩

/-- What a callee is handed: the package variables gs, then the blocks that it may write, then windows. -/
def viewO (gs own : List Nat) (vs m : List V) : Option (List V × List V) :=
  match glob gs m with
  | some gl => match ownC m own with
    | some cs => match vws m own gs.length (cs ++ vs) (gs.length + own.length) with
      | some (as, ro) => match nodupB own && (as.take own.length).all (fun c => (roOf c).isNone) with
        | true => some (as.drop own.length, gl ++ (as.take own.length ++ ro))
        | false => none
      | none => none
    | none => none
  | none => none
def views (gs : List Nat) (vs m : List V) : Option (List V × List V) := viewO gs [] vs m
theorem ownC_grow {m : List V} {z : V} : ∀ {l : List Nat} {cs : List V}, ownC m l = some cs → ownC (m ++ [z]) l = some cs
  | [], _, h => h
  | id :: l, cs, h => by
    unfold ownC at h ⊢
    cases hm : m[id]? with
    | none => rw [hm] at h; cases h
    | some c =>
      rw [hm] at h
      rw [List.getElem?_append, if_pos (List.getElem?_eq_some_iff.1 hm).1, hm]
      dsimp only at h ⊢
      split at h
      · rename_i hr
        split at h
        · rename_i cs' hl; rw [ownC_grow hl]; exact h
        · cases h
      · cases h
theorem viewO_grow {gs own : List Nat} {vs m : List V} {z : V} {r : List V × List V} (h : viewO gs own vs m = some r) : viewO gs own vs (m ++ [z]) = some r := by
  unfold viewO at h ⊢
  split at h
  · rename_i gl hg
    rw [glob_grow hg]
    dsimp only
    split at h
    · rename_i cs hc
      rw [ownC_grow hc]
      dsimp only
      split at h
      · rename_i as ro hv
        rw [vws_grow hv]; exact h
      · cases h
    · cases h
  · cases h
theorem views_grow {gs : List Nat} {vs m : List V} {z : V} {r : List V × List V} (h : views gs vs m = some r) : views gs vs (m ++ [z]) = some r := viewO_grow h

/-- The callee's memory, at its begin. -/
theorem view_mem {gs own : List Nat} {μ : Mu} {B : Blk} {w0 w : World} {m vs as mem0 : List V} (hr : Rel μ B w0 m w) (h : viewO gs own vs m = some (as, mem0)) :
    ∃ ν, RelM ⟨offB μ own w, w, mem0.length, ν⟩ ν mem0 w ∧ (∀ p id, own[p]? = some id → ν (gs.length + p) = μ id) ∧ gs.length + own.length ≤ mem0.length ∧ own.Nodup ∧ (∃ cs, ownC m own = some cs) ∧ ∀ ν', Agree mem0.length ν ν' → (vs.map (V.den μ)).toArray = (as.map (V.den ν')).toArray := by
  unfold viewO at h
  split at h
  · rename_i gl hg
    split at h
    · rename_i cs hc
      split at h
      · rename_i as' ro hv
        split at h
        · rename_i hb
          simp only [Bool.and_eq_true, List.all_eq_true, Option.isNone_iff_eq_none] at hb
          obtain ⟨hnd, hnone⟩ := hb
          have hnd := nodupB_ok hnd
          simp only [Option.some.injEq, Prod.mk.injEq] at h
          obtain ⟨rfl, rfl⟩ := h
          obtain ⟨c1, c2⟩ := ownC_spec hc
          obtain ⟨L, hL, ht, hk⟩ := vws_ok hr hc hv
          obtain ⟨g1, g2, g3⟩ := glob_rel hr hc (k := 0) hg
          have hasl : as'.length = (cs ++ vs).length := by
            have : ∀ (l : List V) (k : Nat) (a r : List V), vws m own gs.length l k = some (a, r) → a.length = l.length := by
              intro l
              induction l with
              | nil => intro k a r h; simp only [vws, Option.some.injEq, Prod.mk.injEq] at h; obtain ⟨rfl, _⟩ := h; rfl
              | cons v l ih =>
                intro k a r h
                simp only [vws] at h
                split at h
                · split at h
                  · rename_i h2
                    simp only [Option.some.injEq, Prod.mk.injEq] at h
                    obtain ⟨rfl, _⟩ := h
                    simp [ih _ _ _ h2]
                  · cases h
                · cases h
            exact this _ _ _ _ hv
          have htk : (as'.take own.length).length = own.length := by rw [List.length_take, hasl]; simp; omega
          let NM : List (Nat × Nat) := gs.map (fun g => (g, 0)) ++ (own.map μ ++ L)
          have hlen : (gl ++ (as'.take own.length ++ ro)).length = NM.length := by simp only [NM, List.length_append, List.length_map, g1, htk, hL]
          have look : ∀ ν' : Mu, (∀ j, j < (gl ++ (as'.take own.length ++ ro)).length → ν' j = NM.getD j (0, 0)) →
              (∀ p id, own[p]? = some id → ν' (gs.length + p) = μ id) ∧ (∀ j v, (gl ++ (as'.take own.length ++ ro))[j]? = some v → Held ν' (offB μ own w) w j v) ∧ as'.map (V.den ν') = (cs ++ vs).map (V.den μ) := by
            intro ν' hν
            have e1 : ∀ (j g : Nat), gs[j]? = some g → ν' (0 + j) = (g, 0) := by
              intro j g hj
              have hjl := (List.getElem?_eq_some_iff.1 hj).1
              rw [Nat.zero_add, hν j (by rw [hlen]; simp [NM]; omega), List.getD_eq_getElem?_getD, List.getElem?_append_left (by simpa using hjl), List.getElem?_map, hj]
              rfl
            have e0 : ∀ p id, own[p]? = some id → ν' (gs.length + p) = μ id := by
              intro p id hp
              have hpl := (List.getElem?_eq_some_iff.1 hp).1
              rw [hν _ (by rw [hlen]; simp [NM]; omega), List.getD_eq_getElem?_getD, List.getElem?_append_right (by simp), List.getElem?_append_left (by simpa using hpl)]
              simp [hp]
            have e2 : ∀ j x, L[j]? = some x → ν' (gs.length + own.length + j) = x := by
              intro j x hj
              have hjl := (List.getElem?_eq_some_iff.1 hj).1
              rw [hν _ (by rw [hlen]; simp [NM]; omega), List.getD_eq_getElem?_getD, List.getElem?_append_right (by simp; omega), List.getElem?_append_right (by simp; omega)]
              have : gs.length + own.length + j - (gs.map (fun g => (g, 0))).length - (own.map μ).length = j := by simp; omega
              rw [this, hj]; rfl
            obtain ⟨h1, h2⟩ := hk ν' e0 e2
            refine ⟨e0, fun j v hv => ?_, h2⟩
            rw [List.getElem?_append] at hv
            split at hv
            · have := g3 ν' e1 j v hv
              rwa [Nat.zero_add] at this
            · rename_i hj
              rw [List.getElem?_append, htk] at hv
              split at hv
              · rename_i hj2
                -- a block that it may write
                obtain ⟨q, hp⟩ : ∃ q, own[j - gl.length]? = some q := ⟨_, List.getElem?_eq_getElem hj2⟩
                obtain ⟨c, m1, m2, m3⟩ := c2 _ _ hp
                have hroN : roOf v = none := hnone v (List.mem_of_getElem? hv)
                have hv2 : as'[j - gl.length]? = some v := by
                  rw [List.getElem?_take, if_pos hj2] at hv; exact hv
                have hden : v.den ν' = c.den μ := by
                  have := congrArg (fun l => l[j - gl.length]?) h2
                  simp only [List.getElem?_map, hv2, Option.map_some] at this
                  rw [List.getElem?_append_left (by rw [c1]; exact hj2), m3] at this
                  simpa using this
                have hh := (hr.hold _ c m1).own m2
                have hn := e0 _ _ hp
                rw [g1] at hn hj
                rw [show gs.length + (j - gs.length) = j by omega] at hn
                refine Held.mk hroN ?_
                rw [hn, hden]
                exact ⟨fun hB => hB.2 _ (List.mem_of_getElem? hp) rfl, hh.2⟩
              · have := h1 (j - gl.length - own.length) v hv
                rwa [show gs.length + own.length + (j - gl.length - own.length) = j by omega] at this
          refine ⟨fun j => NM.getD j (0, 0), ⟨fun μ' hμ => ?_, Agree.refl _ _, Nat.le_refl _⟩, (look _ fun j _ => rfl).1, by rw [hlen]; simp only [NM, List.length_append, List.length_map]; omega, hnd, ⟨cs, hc⟩, fun ν' hν => ?_⟩
          · obtain ⟨e0, h1, _⟩ := look μ' (fun j hj => hμ j hj)
            refine ⟨Keeps.refl _ _, fun id v hv => h1 id v hv, fun i j hi hj hb e => ?_⟩
            -- two names of one block that it may write
            have key : ∀ i, i < (gl ++ (as'.take own.length ++ ro)).length → ¬ offB μ own w (μ' i).1 → ∃ p, i = gs.length + p ∧ p < own.length := by
              intro i hi hb
              have hv := List.getElem?_eq_getElem hi
              have hheld := h1 i _ hv
              rw [List.getElem?_append] at hv
              split at hv
              · exfalso
                obtain ⟨u, hu⟩ := g2 _ (List.mem_of_getElem? hv)
                unfold Held at hheld
                rw [hu] at hheld
                exact hb hheld.1
              · rename_i hj
                rw [List.getElem?_append, htk] at hv
                split at hv
                · exact ⟨i - gl.length, by omega, by assumption⟩
                · exfalso
                  obtain ⟨u, hu⟩ := ht _ (List.mem_of_getElem? hv)
                  rw [hu] at hheld
                  exact hb hheld.1
            obtain ⟨p, rfl, hp⟩ := key i hi hb
            obtain ⟨q, rfl, hq⟩ := key j hj (by rw [← e]; exact hb)
            have ep := e0 p own[p] (List.getElem?_eq_getElem hp)
            have eq := e0 q own[q] (List.getElem?_eq_getElem hq)
            rw [ep, eq] at e
            obtain ⟨c, m1, m2, _⟩ := c2 p _ (List.getElem?_eq_getElem hp)
            obtain ⟨d, n1, n2, _⟩ := c2 q _ (List.getElem?_eq_getElem hq)
            by_cases hne : own[q] = own[p]
            · have := (List.getElem_inj hnd).1 hne
              omega
            · exact absurd e.symm (hr.apart m1 m2 n1 hne)
          · obtain ⟨_, _, h2⟩ := look ν' (fun j hj => hν j hj)
            have := congrArg (List.drop own.length) h2
            have e : List.drop own.length ((cs ++ vs).map (V.den μ)) = vs.map (V.den μ) := by
              rw [List.map_append, List.drop_append_of_le_length (by simp [c1]), List.drop_eq_nil_of_le (by simp [c1]), List.nil_append]
            rw [e] at this
            rw [← this, List.map_drop]
        · cases h
      · cases h
    · cases h
  · cases h
end Go.Ev
