/-
  An evaluator for a part of the model's code, over memory that a call makes itself, and the facts on it that need no program. Conditions: none.
-/
import Derived.WalkKit
namespace Go.Ev

/-- A value whose pointers name blocks of an abstract memory. -/
inductive V where
  | int (k : IntKind) (n : Int)
  | bool (b : Bool)
  | str (s : ByteArray)
  | ptr (id off : Nat)
  | nil
  | sl (id off len cap : Nat)
  | snil
  | ints (k : IntKind) (n : Nat) (f : Nat → Int)
  | bools (n : Nat) (f : Nat → Bool)
  | agg (l : List V)
  | tup (l : List V)
  | fn (f : Nat)
  | wild (a : Option Addr)
  | wsl (a : Option Addr) (n c : Nat)
  | val (v : Value)
  | raw (n : Nat) (g : Nat → Value)

def V.un : V := .tup []
instance : Inhabited V := ⟨V.un⟩

abbrev Mu := Nat → Nat × Nat

/-- No mark. -/
def nbv : Value → Value
  | .bool _ => .tuple #[]
  | v => v
mutual
def V.den (μ : Mu) : V → Value
  | .int k n => .int k n
  | .bool b => .bool b
  | .str s => .string s
  | .ptr id off => .pointer (some ⟨(μ id).1, (μ id).2 + off, none⟩)
  | .nil => .pointer none
  | .sl id off len cap => .slice (some ⟨(μ id).1, (μ id).2 + off, none⟩) len cap
  | .snil => .slice none 0 0
  | .ints k n f => .agg ((List.range n).map fun j => .int k (f j)).toArray
  | .bools n f => .agg ((List.range n).map fun j => .bool (f j)).toArray
  | .agg l => .agg (V.dens μ l).toArray
  | .tup l => .tuple (V.dens μ l).toArray
  | .fn f => .func (.func f) #[] #[]
  | .wild a => .pointer a
  | .wsl a n c => .slice a n c
  | .val v => nbv v
  | .raw n g => .agg ((List.range n).map g).toArray
def V.dens (μ : Mu) : List V → List Value
  | [] => []
  | v :: l => v.den μ :: V.dens μ l
end

/-- A value of which nothing is asked any more. -/
def V.any : Value → V
  | .bool b => .bool b
  | v => .val v
theorem any_den (μ : Mu) (v : Value) : (V.any v).den μ = v := by cases v <;> simp [V.any, V.den, nbv]

theorem dens_map (μ : Mu) : ∀ l, V.dens μ l = l.map (V.den μ)
  | [] => by simp [V.dens]
  | v :: l => by simp [V.dens, dens_map μ l]

/-- No pointer in it: it reads the same under every naming. -/
def V.plain (v : V) : Prop := ∀ μ μ', v.den μ = v.den μ'

/-- The cells of a value (or of a block that holds it). -/
def V.cells (μ : Mu) (v : V) : List Value := (v.den μ).cells.toList

def ofValue : Value → Option V
  | .int k n => some (.int k n)
  | .bool b => some (.bool b)
  | .string s => some (.str s)
  | .pointer none => some .nil
  | .slice none 0 0 => some .snil
  | _ => none

theorem ofValue_den {v : Value} {x : V} (h : ofValue v = some x) (μ : Mu) : x.den μ = v := by
  unfold ofValue at h
  split at h <;> simp at h <;> subst h <;> simp [V.den]

structure St where
  tmps : List V
  mem : List V

def St.put (s : St) (d : Option Tmp) (v : V) : St :=
  match d with
  | some d => { s with tmps := s.tmps.set d v }
  | none => s

def ev (t : List V) : Operand → Option V
  | .tmp i => some (t.getD i V.un)
  | .const v => ofValue v
  | .global g => some (.wild (some ⟨g, 0, none⟩))
  | .func f => some (.fn f)

theorem getD_dens (μ : Mu) (t : List V) (i : Nat) : ((t.map (V.den μ)).toArray).getD i undef = (t.getD i V.un).den μ := by
  simp only [Array.getD_eq_getD_getElem?, List.getElem?_toArray, List.getElem?_map, List.getD_eq_getElem?_getD]
  cases t[i]? <;> simp [V.un, V.den, V.dens, undef]

theorem ev_den {μ : Mu} {t : List V} {x : Operand} {v : V} {d : List Deferred} (h : ev t x = some v) : (Act.mk (t.map (V.den μ)).toArray d).eval x = v.den μ := by
  cases x with
  | tmp i => simp only [ev, Option.some.injEq] at h; subst h; exact getD_dens μ t i
  | const c => exact (ofValue_den h μ).symm
  | global g => simp only [ev, Option.some.injEq] at h; subst h; simp [Act.eval, V.den]
  | func f => simp only [ev, Option.some.injEq] at h; subst h; simp [Act.eval, V.den]

/-- The denoted frame. -/
def act (μ : Mu) (t : List V) : Act := ⟨(t.map (V.den μ)).toArray, []⟩

theorem act_put (μ : Mu) (t : List V) (d : Option Tmp) (v : V) (m : List V) : (act μ t).put d (v.den μ) = act μ (St.put ⟨t, m⟩ d v).tmps := by
  cases d with
  | none => rfl
  | some d => simp [act, Act.put, St.put, List.map_set]

/-- A block that is only read: 'tup [u]' in the memory stands for a window with u's cells in somebody else's block. -/
def roOf : V → Option V
  | .tup [u] => some u
  | .tup [.fn _, u] => some u
  | .tup [.wild _, u] => some u
  | _ => none
/-- 'tup [fn g, u]' stands for the package variable g, which holds u; 'tup [wild a, u]' for a window that begins at a. -/
def tagOf : V → Option (Nat × Nat)
  | .tup [.fn g, _] => some (g, 0)
  | .tup [.wild (some ⟨b, o, none⟩), _] => some (b, o)
  | _ => none
def strip (v : V) : V := match roOf v with
  | some u => u
  | none => v

/-- Others' blocks. -/
abbrev Blk := Nat → Prop
/-- The blocks below n. -/
def lowB (n : Nat) : Blk := fun k => k < n
/-- They are there. -/
def Under (B : Blk) (w : World) : Prop := ∀ k, B k → k < w.heap.size
/-- Others' blocks stay. -/
structure Keeps (B : Blk) (w w' : World) : Prop where
  os : w'.os = w.os
  tape : w'.tape = w.tape
  output : w'.output = w.output
  size : w.heap.size ≤ w'.heap.size
  block : ∀ k, B k → w'.heap[k]? = w.heap[k]?
theorem Keeps.refl (B : Blk) (w : World) : Keeps B w w := ⟨rfl, rfl, rfl, Nat.le_refl _, fun _ _ => rfl⟩
theorem Keeps.trans {B : Blk} {a b c : World} (h : Keeps B a b) (k : Keeps B b c) : Keeps B a c :=
  ⟨k.os.trans h.os, k.tape.trans h.tape, k.output.trans h.output, Nat.le_trans h.size k.size, fun i hi => (k.block i hi).trans (h.block i hi)⟩
theorem Keeps.of {B : Blk} {n : Nat} {a b : World} (h : RowKit.Below n a b) (hB : ∀ k, B k → k < n) : Keeps B a b :=
  ⟨h.os, h.tape, h.output, h.size, fun k hk => h.block k (hB k hk)⟩
theorem Keeps.below {n : Nat} {a b : World} (h : Keeps (lowB n) a b) : RowKit.Below n a b :=
  ⟨h.os, h.tape, h.output, h.size, fun k hk => h.block k hk⟩
theorem Keeps.mono {A B : Blk} {a b : World} (h : Keeps A a b) (hB : ∀ k, B k → A k) : Keeps B a b :=
  ⟨h.os, h.tape, h.output, h.size, fun k hk => h.block k (hB k hk)⟩
theorem under_low {n : Nat} {w : World} (h : n ≤ w.heap.size) : Under (lowB n) w := fun k hk => Nat.lt_of_lt_of_le hk h
theorem not_low {n k : Nat} (h : n ≤ k) : ¬ lowB n k := fun hk => Nat.not_lt.2 h hk

/-- What a block of the abstract memory says of the world. -/
def Held (μ : Mu) (B : Blk) (w : World) (id : Nat) (v : V) : Prop :=
  match roOf v with
  | some u => B (μ id).1 ∧ (μ id).1 < w.heap.size ∧ (∀ g, tagOf v = some g → μ id = g) ∧ ∀ (j : Nat) (c : Value), (u.den μ).cells[j]? = some c → w.cell? ⟨(μ id).1, (μ id).2 + j, none⟩ = some c
  | none => ¬ B (μ id).1 ∧ (μ id).2 = 0 ∧ ∃ t, w.heap[(μ id).1]? = some (.cells (v.den μ).cells t)

/-- The abstract memory lies in the world: block 'id' at 'μ id', its own, from block B on (or only read: below B); below B the world is as w0 was. -/
structure Rel (μ : Mu) (B : Blk) (w0 : World) (m : List V) (w : World) : Prop where
  below : Keeps B w0 w
  hold : ∀ id v, m[id]? = some v → Held μ B w id v
  inj : ∀ i j, i < m.length → j < m.length → ¬ B (μ i).1 → (μ i).1 = (μ j).1 → i = j

theorem Held.own {μ : Mu} {B : Blk} {w : World} {id : Nat} {v : V} (h : Held μ B w id v) (hv : roOf v = none) : ¬ B (μ id).1 ∧ (μ id).2 = 0 ∧ ∃ t, w.heap[(μ id).1]? = some (.cells (v.den μ).cells t) := by
  unfold Held at h
  rw [hv] at h
  exact h
theorem Held.mk {μ : Mu} {B : Blk} {w : World} {id : Nat} {v : V} (hv : roOf v = none) (h : ¬ B (μ id).1 ∧ (μ id).2 = 0 ∧ ∃ t, w.heap[(μ id).1]? = some (.cells (v.den μ).cells t)) : Held μ B w id v := by
  unfold Held
  rw [hv]
  exact h
theorem Held.lt {μ : Mu} {B : Blk} {w : World} {id : Nat} {v : V} (h : Held μ B w id v) : (μ id).1 < w.heap.size := by
  unfold Held at h
  split at h
  · exact h.2.1
  · obtain ⟨_, _, _, ht⟩ := h
    exact (Array.getElem?_eq_some_iff.1 ht).1
/-- It holds in a world that has the block still. -/
theorem Held.keep {μ : Mu} {B : Blk} {w w' : World} {id : Nat} {v : V} (h : Held μ B w id v) (hw : w'.heap[(μ id).1]? = w.heap[(μ id).1]?) : Held μ B w' id v := by
  unfold Held at *
  split
  · rename_i u hu
    rw [hu] at h
    obtain ⟨h1, h2, ht, h3⟩ := h
    refine ⟨h1, ?_, ht, fun j c hc => ?_⟩
    · have e : w.heap[(μ id).1]? = some w.heap[(μ id).1] := Array.getElem?_eq_getElem h2
      rw [e] at hw
      exact (Array.getElem?_eq_some_iff.1 hw).1
    · have h4 := h3 j c hc
      simp only [World.cell?] at h4 ⊢
      rw [hw]; exact h4
  · rename_i hu
    rw [hu] at h
    rw [hw]; exact h
theorem Held.cell {μ : Mu} {B : Blk} {w : World} {id : Nat} {v : V} (h : Held μ B w id v) {off : Nat} {c : Value} (hc : ((strip v).den μ).cells[off]? = some c) :
    w.cell? ⟨(μ id).1, (μ id).2 + off, none⟩ = some c := by
  unfold Held at h
  unfold strip at hc
  split at h
  · rename_i u hu
    rw [hu] at hc
    exact h.2.2.2 _ _ hc
  · rename_i hu
    rw [hu] at hc
    obtain ⟨_, h0, t, ht⟩ := h
    simp only [World.cell?, ht, h0, Nat.zero_add]
    exact hc
theorem Rel.cell {μ : Mu} {B : Blk} {w0 w : World} {m : List V} (h : Rel μ B w0 m w) {id : Nat} {v : V} (hv : m[id]? = some v) {off : Nat} {c : Value} (hc : ((strip v).den μ).cells[off]? = some c) :
    w.cell? ⟨(μ id).1, (μ id).2 + off, none⟩ = some c := (h.hold id v hv).cell hc

/-- Where a package variable stands. -/
def findG (g : Nat) : List V → Nat → Option Nat
  | [], _ => none
  | v :: l, i => match tagOf v with
    | some g' => match Nat.beq g g'.1 && Nat.beq 0 g'.2 with
      | true => some i
      | false => findG g l (i + 1)
    | none => findG g l (i + 1)
theorem findG_spec {g : Nat} : ∀ {l : List V} {i k : Nat}, findG g l i = some k → ∃ v, i ≤ k ∧ l[k - i]? = some v ∧ tagOf v = some (g, 0)
  | [], _, _, h => by simp [findG] at h
  | v :: l, i, k, h => by
    have tail : findG g l (i + 1) = some k → ∃ v', i ≤ k ∧ (v :: l)[k - i]? = some v' ∧ tagOf v' = some (g, 0) := by
      intro h
      obtain ⟨v', h1, h2, h3⟩ := findG_spec h
      refine ⟨v', by omega, ?_, h3⟩
      rw [show k - i = k - (i + 1) + 1 by omega, List.getElem?_cons_succ]
      exact h2
    unfold findG at h
    split at h
    · rename_i g' ht
      split at h
      · rename_i hb
        simp only [Option.some.injEq] at h
        subst h
        simp only [Bool.and_eq_true] at hb
        have h1 := Nat.beq_eq.mp hb.1
        have h2 := Nat.beq_eq.mp hb.2
        exact ⟨v, Nat.le_refl _, by simp, by rw [ht, h1, h2]⟩
      · exact tail h
    · exact tail h
theorem findG_grow {g : Nat} {z : V} : ∀ {l : List V} {i k : Nat}, findG g l i = some k → findG g (l ++ [z]) i = some k
  | [], _, _, h => by simp [findG] at h
  | v :: l, i, k, h => by
    rw [List.cons_append]
    unfold findG at h ⊢
    cases ht : tagOf v with
    | none =>
      rw [ht] at h
      exact findG_grow h
    | some g' =>
      rw [ht] at h
      dsimp only at h ⊢
      cases hb : (Nat.beq g g'.1 && Nat.beq 0 g'.2) with
      | true => rw [hb] at h; exact h
      | false => rw [hb] at h; exact findG_grow h
theorem tag_ro {v : V} {g : Nat × Nat} (h : tagOf v = some g) : ∃ u, roOf v = some u := by
  unfold tagOf at h
  split at h
  · rename_i u; exact ⟨u, rfl⟩
  · rename_i u; exact ⟨u, rfl⟩
  · cases h
theorem Rel.global {μ : Mu} {B : Blk} {w0 w : World} {m : List V} (h : Rel μ B w0 m w) {g k : Nat} (hk : findG g m 0 = some k) : μ k = (g, 0) := by
  obtain ⟨v, _, h2, h3⟩ := findG_spec hk
  rw [Nat.sub_zero] at h2
  have hh := h.hold k v h2
  obtain ⟨u, hu⟩ := tag_ro h3
  unfold Held at hh
  rw [hu] at hh
  exact hh.2.2.1 _ h3

/-! ### Types, cells of a value -/

/-- 'some (some m)': an array or a struct of m cells; 'some none': a type of one cell. -/
def tyk (P : Program) (t : TypeId) : Option (Option Nat) :=
  match P.underlying t, P.info? t with
  | some (.struct _), some i => some (some i.size)
  | some (.array _ _), some i => some (some i.size)
  | some _, some i => if i.size = 1 then some none else none
  | _, _ => none

def eqK : IntKind → IntKind → Bool
  | .i8, .i8 | .i16, .i16 | .i32, .i32 | .i64, .i64 | .u8, .u8 | .u16, .u16 | .u32, .u32 | .u64, .u64 => true
  | _, _ => false
theorem eqK_eq {a b : IntKind} (h : eqK a b = true) : a = b := by cases a <;> cases b <;> first | rfl | simp [eqK] at h

def V.scalar : V → Bool
  | .int _ _ | .bool _ | .str _ | .ptr _ _ | .nil | .sl _ _ _ _ | .snil | .fn _ | .wild _ | .wsl _ _ _ => true
  | _ => false

/-- The cells of a value, each as a value. -/
def V.parts : V → Option (List V)
  | .ints k n f => some ((List.range n).map fun j => .int k (f j))
  | .bools n f => some ((List.range n).map fun j => .bool (f j))
  | .agg l => some l
  | .tup _ => none
  | .val _ => none
  | .raw _ _ => none
  | v => some [v]

theorem beqT {a b : Nat} : Nat.beq a b = true ↔ a = b := by rw [Nat.beq_eq]
theorem bleT {a b : Nat} : Nat.ble a b = true ↔ a ≤ b := by rw [Nat.ble_eq]
theorem bltT {a b : Nat} : Nat.blt a b = true ↔ a < b := by unfold Nat.blt; rw [Nat.ble_eq]; exact Iff.rfl
theorem ff {b : Bool} {p : Prop} (h : b = true ↔ p) (hn : ¬p) : b = false := by cases b <;> simp_all

def sh {α : Type} (off : Nat) (f : Nat → α) : Nat → α := match off with | 0 => f | o + 1 => fun j => f (o + 1 + j)
theorem sh_at {α : Type} (off : Nat) (f : Nat → α) (j : Nat) : sh off f j = f (off + j) := by cases off <;> simp [sh]
def up {α : Type} (off : Nat) (x : α) (f : Nat → α) : Nat → α := fun j => bif Nat.beq j off then x else f j
theorem up_at {α : Type} (off : Nat) (x : α) (f : Nat → α) (j : Nat) : up off x f j = if j = off then x else f j := by
  unfold up; by_cases h : j = off
  · rw [beqT.2 h, if_pos h]; rfl
  · rw [ff beqT h, if_neg h]; rfl
def spl1 {α : Type} (off m : Nat) (g f : Nat → α) : Nat → α := fun j => bif (Nat.ble off j && Nat.blt j (off + m)) then g (j - off) else f j
def spl {α : Type} (off m n : Nat) (g f : Nat → α) : Nat → α :=
  match off with
  | 0 => bif Nat.beq m n then g else spl1 0 m g f
  | o + 1 => spl1 (o + 1) m g f
theorem spl1_at {α : Type} (off m : Nat) (g f : Nat → α) (j : Nat) : spl1 off m g f j = if off ≤ j ∧ j < off + m then g (j - off) else f j := by
  unfold spl1
  by_cases h : off ≤ j ∧ j < off + m
  · rw [bleT.2 h.1, bltT.2 h.2, if_pos h]; rfl
  · have : (Nat.ble off j && Nat.blt j (off + m)) = false := by
      rw [← Bool.not_eq_true, Bool.and_eq_true]
      intro ⟨h1, h2⟩
      exact h ⟨bleT.1 h1, bltT.1 h2⟩
    rw [this, if_neg h]; rfl
theorem spl_at {α : Type} (off m n : Nat) (g f : Nat → α) (j : Nat) (hj : j < n) : spl off m n g f j = if off ≤ j ∧ j < off + m then g (j - off) else f j := by
  cases off with
  | succ o => exact spl1_at _ _ _ _ _
  | zero =>
    simp only [spl]
    by_cases h : m = n
    · subst h; rw [beqT.2 rfl]; simp [hj]
    · rw [ff beqT h]; exact spl1_at _ _ _ _ _

/-- The cells 'off' on of a content, read at a type. -/
def rd (c : V) (off : Nat) (k : Option Nat) : Option (Bool × V) :=
  match c, k with
  | .ints k n f, none => some (Nat.blt off n, .int k (f off))
  | .ints k n f, some m => some (Nat.ble (off + m) n, .ints k m (sh off f))
  | .bools n f, none => some (Nat.blt off n, .bool (f off))
  | .bools n f, some m => some (Nat.ble (off + m) n, .bools m (sh off f))
  | .agg l, none => match l[off]? with
    | some v => some (true, v)
    | none => none
  | .agg l, some m => some (Nat.ble (off + m) l.length, .agg ((l.drop off).take m))
  | .tup _, _ => none
  | .val _, _ => none
  | .raw _ _, _ => none
  | _, some _ => none
  | v, none => some (Nat.beq off 0, v)

/-- Cells, none of which is a value of several cells. -/
def oneCell : Value → Bool
  | .agg _ | .tuple _ => false
  | _ => true
def scals (n : Nat) (g : Nat → Value) : Bool := (List.range n).all fun j => oneCell (g j)
/-- The same content, the cells from 'off' on written. -/
def wr (c : V) (off : Nat) (k : Option Nat) (v : V) : Option (Bool × V) :=
  match c, k, v with
  | .ints k n f, none, .int k' x => some (eqK k k' && Nat.blt off n, .ints k n (up off x f))
  | .ints k n f, some m, .ints k' m' g => some (eqK k k' && Nat.beq m m' && Nat.ble (off + m) n, .ints k n (spl off m n g f))
  | .bools n f, none, .bool x => some (Nat.blt off n, .bools n (up off x f))
  | .bools n f, some m, .bools m' g => some (Nat.beq m m' && Nat.ble (off + m) n, .bools n (spl off m n g f))
  | .agg l, none, v => some (Nat.blt off l.length && v.scalar, .agg (l.set off v))
  | .agg l, some m, .raw m' g => some (Nat.beq off 0 && Nat.beq m m' && Nat.beq l.length m && scals m' g, .raw m' g)
  | .agg l, some m, v => match v.scalar, v.parts with
    | false, some p => some (p.all V.scalar && Nat.beq p.length m && Nat.ble (off + m) l.length, .agg (l.take off ++ p ++ l.drop (off + m)))
    | _, _ => none
  | .tup _, _, _ => none
  | .val _, _, _ => none
  | .raw _ _, _, _ => none
  | .ints .., _, _ => none
  | .bools .., _, _ => none
  | _, none, v => some (Nat.beq off 0 && v.scalar, v)
  | _, some _, _ => none

theorem cells_ints (μ : Mu) (k : IntKind) (n : Nat) (f : Nat → Int) : (V.den μ (.ints k n f)).cells = ((List.range n).map fun j => Value.int k (f j)).toArray := by simp [V.den, Value.cells]
theorem cells_bools (μ : Mu) (n : Nat) (f : Nat → Bool) : (V.den μ (.bools n f)).cells = ((List.range n).map fun j => Value.bool (f j)).toArray := by simp [V.den, Value.cells]
theorem cells_agg (μ : Mu) (l : List V) : (V.den μ (.agg l)).cells = (l.map (V.den μ)).toArray := by simp [V.den, Value.cells, dens_map]
theorem cells_scalar (μ : Mu) {v : V} (h : v.scalar = true) : (V.den μ v).cells = #[v.den μ] := by
  cases v <;> simp [V.scalar] at h <;> simp [V.den, Value.cells]
theorem scalar_one (μ : Mu) {v : V} (h : v.scalar = true) : (∀ a, v.den μ ≠ .agg a) ∧ (∀ a, v.den μ ≠ .tuple a) := by
  cases v <;> simp [V.scalar] at h <;> simp [V.den]

theorem rd_one {μ : Mu} {c v : V} {off : Nat} (h : rd c off none = some (true, v)) : (c.den μ).cells[off]? = some (v.den μ) := by
  cases c <;> simp only [rd, Option.some.injEq, Prod.mk.injEq, reduceCtorEq] at h
  case ints k n f =>
    obtain ⟨h1, rfl⟩ := h
    have : off < n := bltT.1 h1
    rw [cells_ints]; simp [this, V.den]
  case bools n f =>
    obtain ⟨h1, rfl⟩ := h
    have : off < n := bltT.1 h1
    rw [cells_bools]; simp [this, V.den]
  case agg l =>
    rw [cells_agg]
    split at h
    · rename_i u hu
      simp only [Option.some.injEq, Prod.mk.injEq] at h
      obtain ⟨_, rfl⟩ := h
      simp [hu]
    · simp at h
  all_goals
    obtain ⟨h1, rfl⟩ := h
    have : off = 0 := beqT.1 h1
    subst this
    simp [V.den, Value.cells]

theorem map_range_slice {α : Type} (f : Nat → α) (n off m : Nat) (h : off + m ≤ n) : (((List.range n).map f).drop off).take m = (List.range m).map fun j => f (off + j) := by
  apply List.ext_getElem?
  intro i
  by_cases hi : i < m
  · rw [List.getElem?_take, if_pos hi]
    simp [hi, show off + i < n by omega]
  · rw [List.getElem?_take, if_neg hi]
    simp [hi]

theorem rd_many {μ : Mu} {c v : V} {off m : Nat} (h : rd c off (some m) = some (true, v)) :
    ∃ cs : List Value, v.den μ = .agg cs.toArray ∧ cs = ((c.den μ).cells.toList.drop off).take m ∧ cs.length = m := by
  cases c <;> simp only [rd, Option.some.injEq, Prod.mk.injEq, reduceCtorEq] at h
  case ints k n f =>
    obtain ⟨h1, rfl⟩ := h
    have h1 : off + m ≤ n := bleT.1 h1
    refine ⟨_, by simp [V.den]; rfl, ?_, by simp⟩
    rw [cells_ints, List.toList_toArray, map_range_slice _ _ _ _ h1]
    simp [sh_at]
  case bools n f =>
    obtain ⟨h1, rfl⟩ := h
    have h1 : off + m ≤ n := bleT.1 h1
    refine ⟨_, by simp [V.den]; rfl, ?_, by simp⟩
    rw [cells_bools, List.toList_toArray, map_range_slice _ _ _ _ h1]
    simp [sh_at]
  case agg l =>
    obtain ⟨h1, rfl⟩ := h
    have h1 : off + m ≤ l.length := bleT.1 h1
    refine ⟨_, by simp [V.den, dens_map]; rfl, ?_, by simp; omega⟩
    rw [cells_agg]

theorem parts_cells {μ : Mu} {v : V} {p : List V} (h : v.parts = some p) : (v.den μ).cells.toList = p.map (V.den μ) := by
  cases v <;> simp only [V.parts, Option.some.injEq, reduceCtorEq] at h <;> subst h
  case ints k n f => rw [cells_ints]; simp [V.den]
  case bools n f => rw [cells_bools]; simp [V.den]
  case agg l => rw [cells_agg]
  all_goals simp [V.den, Value.cells]

/-- What a store leaves: the cells from 'off' on are the value's. -/
theorem wr_cells {μ : Mu} {c c' v : V} {off : Nat} {k : Option Nat} (h : wr c off k v = some (true, c')) :
    (v.den μ).cells.size = k.getD 1 ∧ off + k.getD 1 ≤ (c.den μ).cells.size ∧ (∀ u ∈ (v.den μ).cells.toList, (∀ a, u ≠ .agg a) ∧ (∀ a, u ≠ .tuple a)) ∧
    (c'.den μ).cells.toList = (c.den μ).cells.toList.take off ++ (v.den μ).cells.toList ++ (c.den μ).cells.toList.drop (off + k.getD 1) := by
  have splice : ∀ {α : Type} (f g : Nat → α) (n off m : Nat), off + m ≤ n → (List.range n).map (spl off m n g f) = ((List.range n).map f).take off ++ (List.range m).map g ++ ((List.range n).map f).drop (off + m) := by
    intro α f g n off m hm
    apply List.ext_getElem (by simp; omega)
    intro i h1 h2
    simp at h1
    simp only [List.getElem_map, List.getElem_range, List.getElem_append, List.getElem_take, List.getElem_drop, List.length_append, List.length_take, List.length_map, List.length_range]
    rw [spl_at _ _ _ _ _ _ h1]
    by_cases ha : off ≤ i ∧ i < off + m
    · rw [if_pos ha, dif_pos (by omega), dif_neg (by omega)]; congr 1; omega
    · rw [if_neg ha]
      by_cases hb : i < off
      · rw [dif_pos (by omega), dif_pos (by omega)]
      · rw [dif_neg (by omega)]; congr 1; omega
  have one : ∀ {α : Type} (f : Nat → α) (x : α) (n off : Nat), off < n → (List.range n).map (up off x f) = ((List.range n).map f).take off ++ [x] ++ ((List.range n).map f).drop (off + 1) := by
    intro α f x n off hm
    apply List.ext_getElem (by simp; omega)
    intro i h1 h2
    simp at h1
    simp only [List.getElem_map, List.getElem_range, List.getElem_append, List.getElem_take, List.getElem_drop, List.length_append, List.length_take, List.length_map, List.length_range, List.length_cons, List.length_nil]
    rw [up_at]
    by_cases ha : i = off
    · rw [if_pos ha, dif_pos (by omega), dif_neg (by omega)]; simp
    · rw [if_neg ha]
      by_cases hb : i < off
      · rw [dif_pos (by omega), dif_pos (by omega)]
      · rw [dif_neg (by omega)]; congr 1; omega
  have sc : ∀ {v : V}, v.scalar = true → (v.den μ).cells.size = 1 ∧ (v.den μ).cells.toList = [v.den μ] ∧ (∀ u ∈ (v.den μ).cells.toList, (∀ a, u ≠ .agg a) ∧ (∀ a, u ≠ .tuple a)) := by
    intro v hv
    rw [cells_scalar μ hv]
    refine ⟨rfl, rfl, fun u hu => ?_⟩
    simp at hu; subst hu; exact scalar_one μ hv
  have many : ∀ {v : V} {p : List V}, v.parts = some p → p.all V.scalar = true → (v.den μ).cells.size = p.length ∧ (v.den μ).cells.toList = p.map (V.den μ) ∧ (∀ u ∈ (v.den μ).cells.toList, (∀ a, u ≠ .agg a) ∧ (∀ a, u ≠ .tuple a)) := by
    intro v p hp ha
    have h1 := parts_cells (μ := μ) hp
    refine ⟨by rw [← Array.length_toList, h1]; simp, h1, fun u hu => ?_⟩
    rw [h1] at hu
    obtain ⟨x, hx, rfl⟩ := List.mem_map.1 hu
    exact scalar_one μ (List.all_eq_true.1 ha x hx)
  have szI : ∀ (k : IntKind) (n : Nat) (f : Nat → Int), ((V.ints k n f).den μ).cells.size = n := by intro k n f; rw [cells_ints]; simp
  have szB : ∀ (n : Nat) (f : Nat → Bool), ((V.bools n f).den μ).cells.size = n := by intro n f; rw [cells_bools]; simp
  unfold wr at h
  split at h
  · simp only [Option.some.injEq, Prod.mk.injEq, Bool.and_eq_true] at h
    obtain ⟨⟨hk, ho⟩, rfl⟩ := h
    have hk := eqK_eq hk; subst hk
    have ho := bltT.1 ho
    obtain ⟨a1, a2, a3⟩ := sc (v := .int _ _) (by rfl)
    refine ⟨a1, by rw [szI]; exact ho, a3, ?_⟩
    rw [a2, cells_ints, cells_ints]
    simpa [V.den, List.map_map, Function.comp_def] using congrArg (List.map (Value.int _)) (one _ _ _ _ ho)
  · simp only [Option.some.injEq, Prod.mk.injEq, Bool.and_eq_true] at h
    obtain ⟨⟨⟨hk, hm⟩, ho⟩, rfl⟩ := h
    have hk := eqK_eq hk; subst hk
    have hm := beqT.1 hm; subst hm
    have ho := bleT.1 ho
    obtain ⟨a1, a2, a3⟩ := many (v := .ints _ _ _) rfl (by simp [V.scalar])
    refine ⟨by rw [szI]; rfl, by rw [szI]; exact ho, a3, ?_⟩
    rw [cells_ints, cells_ints, cells_ints]
    simpa [List.map_map, Function.comp_def] using congrArg (List.map (Value.int _)) (splice _ _ _ _ _ ho)
  · simp only [Option.some.injEq, Prod.mk.injEq] at h
    obtain ⟨ho, rfl⟩ := h
    have ho := bltT.1 ho
    obtain ⟨a1, a2, a3⟩ := sc (v := .bool _) (by rfl)
    refine ⟨a1, by rw [szB]; exact ho, a3, ?_⟩
    rw [a2, cells_bools, cells_bools]
    simpa [V.den, List.map_map, Function.comp_def] using congrArg (List.map Value.bool) (one _ _ _ _ ho)
  · simp only [Option.some.injEq, Prod.mk.injEq, Bool.and_eq_true] at h
    obtain ⟨⟨hm, ho⟩, rfl⟩ := h
    have hm := beqT.1 hm; subst hm
    have ho := bleT.1 ho
    obtain ⟨a1, a2, a3⟩ := many (v := .bools _ _) rfl (by simp [V.scalar])
    refine ⟨by rw [szB]; rfl, by rw [szB]; exact ho, a3, ?_⟩
    rw [cells_bools, cells_bools, cells_bools]
    simpa [List.map_map, Function.comp_def] using congrArg (List.map Value.bool) (splice _ _ _ _ _ ho)
  · rename_i l v
    simp only [Option.some.injEq, Prod.mk.injEq, Bool.and_eq_true] at h
    obtain ⟨⟨ho, hv⟩, rfl⟩ := h
    have ho := bltT.1 ho
    obtain ⟨a1, a2, a3⟩ := sc hv
    refine ⟨a1, by rw [cells_agg]; simp; omega, a3, ?_⟩
    rw [a2, cells_agg, cells_agg]
    rw [List.set_eq_take_append_cons_drop, if_pos ho]
    simp [List.map_take, List.map_drop]
  · rename_i l m m' g
    simp only [Option.some.injEq, Prod.mk.injEq, Bool.and_eq_true] at h
    obtain ⟨⟨⟨⟨ho, hm⟩, hl⟩, hg⟩, rfl⟩ := h
    have ho := beqT.1 ho; have hm := beqT.1 hm; have hl := beqT.1 hl
    subst ho hm
    have e1 : ((V.raw m g).den μ).cells = ((List.range m).map g).toArray := by simp [V.den, Value.cells]
    refine ⟨by rw [e1]; simp, by rw [cells_agg]; simp [hl], fun u hu => ?_, ?_⟩
    · rw [e1] at hu
      simp only [List.mem_map, List.mem_range] at hu
      obtain ⟨j, hj, rfl⟩ := hu
      have h2 := List.all_eq_true.1 hg j (List.mem_range.2 hj)
      constructor <;> intro a ha <;> rw [ha] at h2 <;> cases h2
    · rw [cells_agg, e1]
      simp [hl]
  · rename_i l m v hnr
    split at h
    · rename_i p hvs hp
      simp only [Option.some.injEq, Prod.mk.injEq, Bool.and_eq_true] at h
      obtain ⟨⟨⟨ha, hl⟩, ho⟩, rfl⟩ := h
      have ho := bleT.1 ho
      have hl := beqT.1 hl
      obtain ⟨a1, a2, a3⟩ := many hp ha
      refine ⟨by rw [a1]; exact hl, by rw [cells_agg]; simpa using ho, a3, ?_⟩
      rw [a2, cells_agg, cells_agg]
      simp [List.map_take, List.map_drop]
    · simp at h
  · simp at h
  · simp at h
  · simp at h
  · simp at h
  · simp at h
  · rename_i _ _ _ hA hT hV hR hI hB _ _
    simp only [Option.some.injEq, Prod.mk.injEq, Bool.and_eq_true] at h
    obtain ⟨⟨ho, hv⟩, rfl⟩ := h
    have ho := beqT.1 ho; subst ho
    obtain ⟨a1, a2, a3⟩ := sc hv
    have hc : (c.den μ).cells.size = 1 ∧ (c.den μ).cells.toList.length = 1 := by
      cases c <;> first | (simp [V.den, Value.cells]; done) | exact (hR _ _ rfl).elim | exact (hI _ _ _ rfl).elim | exact (hB _ _ rfl).elim | exact (hA _ rfl).elim | exact (hT _ rfl).elim | exact (hV _ rfl).elim
    refine ⟨a1, by rw [hc.1]; simp, a3, ?_⟩
    rw [List.drop_eq_nil_of_le (by rw [hc.2]; simp)]
    simp
  · simp at h

end Go.Ev
