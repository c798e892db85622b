/-
  The operations of the evaluator: those that leave memory as it is. Conditions: none.
-/
import Derived.Test.YtbnclikjbnfodaaFvA
import Derived.ChangeKeysEq
namespace Go.Ev
open RowKit (Below)

/-- The pure callees: a function of the arguments and the memory that the caller has made. -/
abbrev Orc := FuncId → List V → List V → Option (Bool × V)

def evs (t : List V) : List Operand → Option (List V)
  | [] => some []
  | x :: l => match ev t x, evs t l with
    | some v, some vs => some (v :: vs)
    | _, _ => none

def bits2 (k : IntKind) (f : BitVec k.bits → BitVec k.bits → BitVec k.bits) (a b : Int) : Int := k.wrap ((f (BitVec.ofInt k.bits a) (BitVec.ofInt k.bits b)).toNat)
def andI (k : IntKind) (a b : Int) : Int := bits2 k (· &&& ·) a b
def orI (k : IntKind) (a b : Int) : Int := bits2 k (· ||| ·) a b
def xorI (k : IntKind) (a b : Int) : Int := bits2 k (· ^^^ ·) a b
def andNotI (k : IntKind) (a b : Int) : Int := bits2 k (fun x y => x &&& ~~~y) a b
def addI (k : IntKind) (a b : Int) : Int := k.wrap (a + b)
def subI (k : IntKind) (a b : Int) : Int := k.wrap (a - b)
def mulI (k : IntKind) (a b : Int) : Int := k.wrap (a * b)
def quoI (k : IntKind) (a b : Int) : Int := k.wrap (a.tdiv b)
def remI (a b : Int) : Int := a.tmod b
def shlI (k : IntKind) (a b : Int) : Int := k.wrap (a * 2 ^ (min b.toNat k.bits))
def shrI (k : IntKind) (a b : Int) : Int := a.fdiv (2 ^ (min b.toNat k.bits))

def maxI (a b : Int) : Int := bif decide (b > a) then b else a
/-- Are the first n numbers the same? -/
def eqN (n : Nat) (f g : Nat → Int) : Bool :=
  match n with
  | 0 => true
  | n + 1 => eqN n f g && f n == g n

def intBin (op : BinOp) (k : IntKind) (a : Int) (k' : IntKind) (b : Int) : Option (Bool × V) :=
  match op with
  | .shl => some (decide (0 ≤ b), .int k (shlI k a b))
  | .shr => some (decide (0 ≤ b), .int k (shrI k a b))
  | .add => some (eqK k k', .int k (addI k a b))
  | .sub => some (eqK k k', .int k (subI k a b))
  | .mul => some (eqK k k', .int k (mulI k a b))
  | .quo => some (eqK k k' && b != 0, .int k (quoI k a b))
  | .rem => some (eqK k k' && b != 0, .int k (remI a b))
  | .and => some (eqK k k', .int k (andI k a b))
  | .or => some (eqK k k', .int k (orI k a b))
  | .xor => some (eqK k k', .int k (xorI k a b))
  | .andNot => some (eqK k k', .int k (andNotI k a b))
  | .eql => some (eqK k k', .bool (a == b))
  | .neq => some (eqK k k', .bool (a != b))
  | .lss => some (eqK k k', .bool (a < b))
  | .leq => some (eqK k k', .bool (a ≤ b))
  | .gtr => some (eqK k k', .bool (a > b))
  | .geq => some (eqK k k', .bool (a ≥ b))

/-- Two arrays of n integers of kind k at type t. -/
def isIntArr (P : Program) (t : TypeId) (k : IntKind) (n : Nat) : Bool :=
  match P.underlying t with
  | some (.array m e) => Nat.beq m n && (match P.underlying e, P.info? e with
    | some (.int k'), some i => eqK k k' && Nat.beq i.size 1
    | _, _ => false)
  | _ => false

/-- The length of an array type of integers of kind k. -/
def intArr (P : Program) (t : TypeId) (k : IntKind) : Option Nat :=
  match P.underlying t, P.info? t with
  | some (.array m e), some j => match P.underlying e, P.info? e with
    | some (.int k'), some i => if (eqK k k' && Nat.beq i.size 1 && Nat.beq j.size m) = true then some m else none
    | _, _ => none
  | _, _ => none
/-- Fields that are such arrays, one behind the other: where the last one ends. -/
def intFields (P : Program) (k : IntKind) : List Field → Nat → Option Nat
  | [], o => some o
  | f :: fs, o => match intArr P f.type k with
    | some m => if (Nat.beq f.offset o && !(f.name == "_")) = true then intFields P k fs (o + m) else none
    | none => none
/-- Two structs of n integers of kind k at type t, in arrays. -/
def isIntStruct (P : Program) (t : TypeId) (k : IntKind) (n : Nat) : Bool :=
  match P.underlying t with
  | some (.struct fs) => !P.stoodInHeld t && (match intFields P k fs.toList 0 with | some m => Nat.beq m n | none => false)
  | _ => false

def binV (P : Program) (op : BinOp) (t : TypeId) (a b : V) : Option (Bool × V) :=
  match a, b with
  | .int k x, .int k' y => intBin op k x k' y
  | .ints k n f, .ints k' n' g =>
    match op with
    | .eql => some (eqK k k' && Nat.beq n n' && (isIntArr P t k n || isIntStruct P t k n) && !P.eqGuardType P.depth t, .bool (eqN n f g))
    | .neq => some (eqK k k' && Nat.beq n n' && (isIntArr P t k n || isIntStruct P t k n) && !P.eqGuardType P.depth t, .bool (!eqN n f g))
    | _ => none
  | .bool x, .bool y =>
    match op with
    | .eql => some (match P.underlying t with | some .bool => true | _ => false, .bool (x == y))
    | .neq => some (match P.underlying t with | some .bool => true | _ => false, .bool (!(x == y)))
    | _ => none
  | .sl _ _ _ _, .snil =>
    match op with
    | .eql => some (match P.underlying t with | some (.slice _) => true | _ => false, .bool false)
    | .neq => some (match P.underlying t with | some (.slice _) => true | _ => false, .bool true)
    | _ => none
  | .snil, .snil =>
    match op with
    | .eql => some (match P.underlying t with | some (.slice _) => true | _ => false, .bool true)
    | .neq => some (match P.underlying t with | some (.slice _) => true | _ => false, .bool false)
    | _ => none
  | _, _ => none

def unV (op : UnOp) (a : V) : Option (Bool × V) :=
  match op, a with
  | .not, .bool b => some (true, .bool (!b))
  | .neg, .int k n => some (true, .int k (subI k 0 n))
  | .xor, .int k n => some (true, .int k (xorI k (if k.signed then -1 else k.max) n))
  | _, _ => none

/-- The parts of a composite value laid into it. -/
def layV (P : Program) (place : Nat → Option (Nat × TypeId)) : V → List (Nat × V) → Option (Bool × V)
  | z, [] => some (true, z)
  | z, (i, v) :: rest => match place i with
    | some (off, e) => match tyk P e with
      | some k => match wr z off k v with
        | some (true, z') => layV P place z' rest
        | _ => none
      | none => none
    | none => none

def zeroInts (k : IntKind) : List Value → Bool
  | [] => true
  | .int k' n :: l => eqK k k' && n == 0 && zeroInts k l
  | _ => false
def zeroBools : List Value → Bool
  | [] => true
  | .bool b :: l => !b && zeroBools l
  | _ => false
def ofValues : List Value → Option (List V)
  | [] => some []
  | v :: l => match ofValue v, ofValues l with
    | some x, some xs => some (x :: xs)
    | _, _ => none
def ofZero (v : Value) : Option V :=
  match v with
  | .agg cs => match cs.toList with
    | .int k n :: l => bif zeroInts k (.int k n :: l) then some (.ints k (l.length + 1) fun _ => 0) else (ofValues (.int k n :: l)).map .agg
    | .bool b :: l => bif zeroBools (.bool b :: l) then some (.bools (l.length + 1) fun _ => false) else (ofValues (.bool b :: l)).map .agg
    | l => (ofValues l).map .agg
  | v => ofValue v
def zeroV (P : Program) (t : TypeId) : Option V :=
  match P.info? t with
  | some i => match i.zero with
    | some v => ofZero v
    | none => none
  | none => none

def placeOf (P : Program) (t : TypeId) : Option (Nat → Option (Nat × TypeId)) :=
  match P.underlying t with
  | some (.struct fs) => bif !fs.toList.all (fun f => (P.info? f.type).isSome) then none else some fun i => match fs[i]? with | some f => some (f.offset, f.type) | none => none
  | some (.array _ e) => match P.info? e with | some i => some fun j => some (j * i.size, e) | none => none
  | _ => none

def V.isAgg : V → Bool
  | .ints .. | .bools .. | .agg _ => true
  | _ => false

def evParts (t : List V) : List (Nat × Operand) → Option (List (Nat × V))
  | [] => some []
  | (i, x) :: l => match ev t x, evParts t l with
    | some v, some vs => some ((i, v) :: vs)
    | _, _ => none

def buildV (P : Program) (ty : TypeId) (ps : List (Nat × V)) : Option (Bool × V) :=
  match placeOf P ty, zeroV P ty with
  | some pl, some z => bif z.isAgg then layV P pl z ps else none
  | _, _ => none

/-- The block of a slice of len elements: integers, marks, or arrays of integers. -/
def bslV (P : Program) (t : TypeId) (len : Nat) (ps : List (Nat × V)) : Option (Bool × V) :=
  match P.underlying t with
  | some (.slice e) => match P.info? e, zeroV P e with
    | some i, some (.ints k m f) => bif Nat.beq m i.size && Nat.ble (len * m) 16777216 && Nat.blt 0 (len * m) then layV P (fun j => some (j * i.size, e)) (.ints k (len * m) (fun j => f (j % m))) ps else none
    | some i, some (.int k n) => bif Nat.beq 1 i.size && Nat.ble len 16777216 && Nat.blt 0 len then layV P (fun j => some (j * i.size, e)) (.ints k len (fun _ => n)) ps else none
    | some i, some (.bool b) => bif Nat.beq 1 i.size && Nat.ble len 16777216 then layV P (fun j => some (j * i.size, e)) (.bools len (fun _ => b)) ps else none
    | _, _ => none
  | _ => none
/-- The block of a slice that is made: c elements, all zero. -/
def mslV (P : Program) (t : TypeId) (c : Int) : Option (Bool × V) :=
  match P.underlying t with
  | some (.slice e) => match P.info? e, zeroV P e with
    | some i, some (.ints k m f) => some (Nat.beq m i.size && Nat.blt 0 m && Nat.ble (i.bytes * c.toNat) 281474976710656 && decide (0 ≤ c), .ints k (c.toNat * m) (fun j => f (j % m)))
    | some i, some (.int k n) => some (Nat.beq 1 i.size && Nat.ble (i.bytes * c.toNat) 281474976710656 && decide (0 ≤ c), .ints k c.toNat (fun _ => n))
    | some i, some (.bool b) => some (Nat.beq 1 i.size && Nat.ble (i.bytes * c.toNat) 281474976710656 && decide (0 ≤ c), .bools c.toNat (fun _ => b))
    | _, _ => none
  | _ => none

/-- n elements of s cells each. -/
def szm (n s : Nat) : Nat := bif Nat.beq s 1 then n else n * s
theorem szm_eq (n s : Nat) : szm n s = n * s := by
  unfold szm
  by_cases h : s = 1
  · rw [beqT.2 h, h]; simp
  · rw [ff beqT h]; rfl
/-- l cells of f, then n of g, then z. -/
def ap {α : Type} (l n : Nat) (f g : Nat → α) (z : α) : Nat → α := fun j => bif Nat.blt j l then f j else bif Nat.blt j (l + n) then g (j - l) else z
/-- The same, z a row of its own. -/
def apf {α : Type} (l n : Nat) (f g : Nat → α) (z : Nat → α) : Nat → α := fun j => bif Nat.blt j l then f j else bif Nat.blt j (l + n) then g (j - l) else z (j - (l + n))
/-- The row that an append makes: l cells of the old, n new ones, and noughts. -/
def apV (z : V) (cap l : Nat) (old : V) (n : Nat) (new : V) : Option V :=
  match z, old, new with
  | .ints kz m z0, .ints k _ f, .ints k' _ g => bif eqK k k' && eqK kz k && Nat.blt 0 m then some (.ints k cap (apf l n f g (fun q => z0 (q % m)))) else none
  | .int kz z0, .ints k _ f, .ints k' _ g => bif eqK k k' && eqK kz k then some (.ints k cap (ap l n f g z0)) else none
  | .bool z0, .bools _ f, .bools _ g => some (.bools cap (ap l n f g z0))
  | _, _, _ => none
def zsz : V → Nat
  | .ints _ m _ => m
  | _ => 1
def isRow : V → Bool
  | .ints _ _ _ | .bools _ _ => true
  | _ => false
def nilV (z : V) : V :=
  match z with
  | .int k n => .ints k 0 (fun _ => n)
  | .bool b => .bools 0 (fun _ => b)
  | .ints k _ f => .ints k 0 f
  | v => v

def fieldAtV (P : Program) (s : TypeId) (a : V) (f : Nat) : Option (Bool × V) :=
  match a, P.underlying s with
  | .ptr id off, some (.struct fs) => match fs[f]? with
    | some fl => match P.info? fl.type with
      | some i => some (!Nat.beq i.size 0, .ptr id (off + fl.offset))
      | none => none
    | none => none
  | _, _ => none

def indexAtV (P : Program) (t : TypeId) (x i : V) : Option (Bool × V) :=
  match x, i, P.underlying t with
  | .ptr id off, .int _ n, some (.array len e) => match P.info? e with
    | some ei => some (decide (0 ≤ n ∧ n < len), .ptr id (off + n.toNat * ei.size))
    | none => none
  | .wild (some ⟨g, off, none⟩), .int _ n, some (.array len e) => match P.info? e with
    | some ei => some (decide (0 ≤ n ∧ n < len), .wild (some ⟨g, off + n.toNat * ei.size, none⟩))
    | none => none
  | .sl id off len _, .int _ n, some (.slice e) => match P.info? e with
    | some ei => some (decide (0 ≤ n ∧ n < len), .ptr id (off + n.toNat * ei.size))
    | none => none
  | _, _, _ => none

def fieldV (P : Program) (s : TypeId) (a : V) (f : Nat) : Option (Bool × V) :=
  match P.underlying s with
  | some (.struct fs) => match fs[f]? with
    | some fl => match tyk P fl.type with
      | some k => match a.scalar with
        | false => rd a fl.offset k
        | true => none
      | none => none
    | none => none
  | _ => none

def indexV (P : Program) (t : TypeId) (x i : V) : Option (Bool × V) :=
  match i, P.underlying t with
  | .int _ n, some (.array len e) => match tyk P e, P.info? e, x.scalar with
    | some k, some ei, false => match rd x (n.toNat * ei.size) k with
      | some (g, v) => some (decide (0 ≤ n ∧ n < len) && g, v)
      | none => none
    | _, _, _ => none
  | _, _ => none

/-- Kinds of cells; a raw cell told by its kind. -/
inductive Kd where
  | int (k : IntKind)
  | bool
  | sl
  | str
def gI : Value → Int
  | .int _ n => n
  | _ => 0
def gB2 : Value → Bool
  | .bool b => b
  | _ => false
def gA : Value → Option Addr
  | .slice a _ _ => a
  | _ => none
def gN : Value → Nat
  | .slice _ n _ => n
  | _ => 0
def gC : Value → Nat
  | .slice _ _ c => c
  | _ => 0
def gS : Value → ByteArray
  | .string s => s
  | _ => default
def isK (k : Kd) (v : Value) : Bool := match k, v with
  | .int k, .int k' _ => eqK k k'
  | .bool, .bool _ => true
  | .sl, .slice _ _ _ => true
  | .str, .string _ => true
  | _, _ => false
def rdK (k : Kd) (v : Value) : V := match k with
  | .int k => .int k (gI v)
  | .bool => .bool (gB2 v)
  | .sl => .wsl (gA v) (gN v) (gC v)
  | .str => .str (gS v)
theorem rdK_den {k : Kd} {v : Value} (h : isK k v = true) (μ : Mu) : (rdK k v).den μ = v := by
  cases k <;> cases v <;> simp [isK] at h <;> simp [rdK, V.den, gI, gB2, gA, gN, gC, gS]
  exact (eqK_eq h)
def kindsOf (P : Program) : Nat → TypeId → List Kd
  | 0, _ => []
  | f + 1, t => match P.underlying t with
    | some (.int k) => [.int k]
    | some .bool => [.bool]
    | some .string => [.str]
    | some (.slice _) => [.sl]
    | some (.struct fs) => fs.toList.flatMap fun fl => kindsOf P f fl.type
    | some (.array n e) => (List.replicate n (kindsOf P f e)).flatten
    | _ => []
def okKs : List Kd → (Nat → Value) → Nat → Bool
  | [], _, _ => true
  | k :: ks, g, off => isK k (g off) && okKs ks g (off + 1)
def rdKs : List Kd → (Nat → Value) → Nat → List V
  | [], _, _ => []
  | k :: ks, g, off => rdK k (g off) :: rdKs ks g (off + 1)
theorem rdKs_den {g : Nat → Value} (μ : Mu) : ∀ {ks : List Kd} {off : Nat}, okKs ks g off = true → V.dens μ (rdKs ks g off) = (List.range ks.length).map fun j => g (off + j)
  | [], off, _ => by simp [rdKs, V.dens]
  | k :: ks, off, h => by
    simp only [okKs, Bool.and_eq_true] at h
    simp only [rdKs, V.dens, rdK_den h.1, rdKs_den μ h.2, List.length_cons, List.range_succ_eq_map, List.map_cons, List.map_map, Nat.add_zero, List.cons.injEq, true_and]
    apply List.map_congr_left
    intro j _
    simp only [Function.comp_def]
    congr 1; omega
/-- All of one kind of integers. -/
def allI (k : IntKind) : List Kd → Bool
  | [] => true
  | .int k' :: l => eqK k k' && allI k l
  | _ => false
def gIs (g : Nat → Value) (off : Nat) : Nat → Int := fun j => gI (g (off + j))
/-- Many raw cells: integers of one kind; a few of many kinds; many. -/
def manyV (ks : List Kd) (g : Nat → Value) (off : Nat) : V := match ks with
  | .int k :: l => match allI k l with
    | true => .ints k ks.length (gIs g off)
    | false => match Nat.ble ks.length 16 with
      | true => .agg (rdKs ks g off)
      | false => .raw ks.length (sh off g)
  | _ => .agg (rdKs ks g off)
theorem allI_den {k : IntKind} : ∀ {ks : List Kd} {g : Nat → Value} {off : Nat}, allI k ks = true → okKs ks g off = true → ∀ j, j < ks.length → g (off + j) = .int k (gI (g (off + j)))
  | [], _, _, _, _, j, hj => by simp at hj
  | kd :: ks, g, off, ha, ho, j, hj => by
    cases kd <;> simp only [allI, Bool.and_eq_true, Bool.false_eq_true] at ha
    rename_i k'
    have hk := eqK_eq ha.1; subst hk
    simp only [okKs, Bool.and_eq_true] at ho
    cases j with
    | zero => have := rdK_den ho.1 (fun _ => (0, 0)); simp only [rdK, V.den] at this; exact this.symm
    | succ j => have := allI_den ha.2 ho.2 j (by simpa using hj); rw [show off + 1 + j = off + (j + 1) by omega] at this; exact this
theorem manyV_den {ks : List Kd} {g : Nat → Value} {off : Nat} (μ : Mu) (h : okKs ks g off = true) : (manyV ks g off).den μ = .agg ((List.range ks.length).map fun j => g (off + j)).toArray := by
  have h0 : (V.agg (rdKs ks g off)).den μ = .agg ((List.range ks.length).map fun j => g (off + j)).toArray := by simp only [V.den, rdKs_den μ h]
  unfold manyV
  split
  · rename_i k l
    split
    · rename_i ha
      simp only [V.den]
      congr 2
      apply List.map_congr_left
      intro j hj
      exact (allI_den (k := k) (ks := .int k :: l) (by simp only [allI, Bool.and_eq_true]; exact ⟨by cases k <;> rfl, ha⟩) h j (List.mem_range.1 hj)).symm
    · split
      · exact h0
      · simp only [V.den]; congr 2; exact List.map_congr_left fun j _ => sh_at off g j
  · exact h0
/-- Raw cells, read by a type. -/
def rawV (ks : List Kd) (n : Nat) (g : Nat → Value) (off : Nat) (k : Option Nat) : Option (Bool × V) := match k, ks with
  | none, [kd] => some (Nat.blt off n && isK kd (g off), rdK kd (g off))
  | some m, ks => some (Nat.beq ks.length m && Nat.ble (off + m) n && okKs ks g off, manyV ks g off)
  | _, _ => none
theorem cells_raw (μ : Mu) (n : Nat) (g : Nat → Value) : (V.den μ (.raw n g)).cells = ((List.range n).map g).toArray := by simp [V.den, Value.cells]
def rdT (P : Program) (t : TypeId) (c : V) (off : Nat) (k : Option Nat) : Option (Bool × V) := match c with
  | .raw n g => rawV (kindsOf P 8 t) n g off k
  | c => rd c off k
theorem rdT_one {P : Program} {t : TypeId} {μ : Mu} {c v : V} {off : Nat} (h : rdT P t c off none = some (true, v)) : (c.den μ).cells[off]? = some (v.den μ) := by
  unfold rdT at h
  split at h
  · rename_i n g
    generalize kindsOf P 8 t = ks at h
    cases ks with
    | nil => simp [rawV] at h
    | cons kd l =>
      cases l with
      | cons _ _ => simp [rawV] at h
      | nil =>
        simp only [rawV, Option.some.injEq, Prod.mk.injEq, Bool.and_eq_true] at h
        obtain ⟨⟨h1, h2⟩, rfl⟩ := h
        rw [cells_raw, rdK_den h2]
        simp [bltT.1 h1]
  · exact rd_one h
theorem rdT_many {P : Program} {t : TypeId} {μ : Mu} {c v : V} {off m : Nat} (h : rdT P t c off (some m) = some (true, v)) :
    ∃ cs : List Value, v.den μ = .agg cs.toArray ∧ cs = ((c.den μ).cells.toList.drop off).take m ∧ cs.length = m := by
  unfold rdT at h
  split at h
  · rename_i n g
    generalize kindsOf P 8 t = ks at h
    simp only [rawV, Option.some.injEq, Prod.mk.injEq, Bool.and_eq_true] at h
    obtain ⟨⟨⟨h1, h2⟩, h3⟩, rfl⟩ := h
    have h1 := beqT.1 h1
    have h2 := bleT.1 h2
    refine ⟨(List.range ks.length).map fun j => g (off + j), ?_, ?_, by simp [h1]⟩
    · exact manyV_den μ h3
    · rw [cells_raw, List.toList_toArray, map_range_slice _ _ _ _ h2, h1]
  · exact rd_many h

def loadV (P : Program) (m : List V) (t : TypeId) (a : V) : Option (Bool × V) :=
  match a with
  | .ptr id off => match m[id]?, tyk P t with
    | some c, some k => rdT P t (strip c) off k
    | _, _ => none
  | .wild (some ⟨g, off, none⟩) => match findG g m 0 with
    | some id => match m[id]?, tyk P t with
      | some c, some k => rdT P t (strip c) off k
      | _, _ => none
    | none => none
  | _ => none

def evO (t : List V) : Option Operand → Option (Option V)
  | none => some none
  | some x => match ev t x with
    | some v => some (some v)
    | none => none
/-- How far a slice's first element lies behind the old one's. -/
def slo (cap l size : Nat) : Nat := bif Nat.beq l 0 then 0 else bif Nat.beq cap l then 0 else l * size
def sliceV (P : Program) (ty : TypeId) (x : V) (lo hi : Option V) : Option (Bool × V) :=
  match (match x, P.underlying ty with
    | .ptr id off, some (.array n e) => some (id, off, n, n, e)
    | .sl id off len cap, some (.slice e) => some (id, off, len, cap, e)
    | _, _ => none) with
  | some (id, off, len, cap, e) => match P.info? e, (match lo with | some l => l | none => .int .i64 0), (match hi with | some h => h | none => .int .i64 len) with
    | some ei, .int _ l, .int _ h => some (decide (0 ≤ l ∧ l ≤ h ∧ h ≤ cap), .sl id (off + slo cap l.toNat ei.size) (h.toNat - l.toNat) (cap - l.toNat))
    | _, _, _ => none
  | none => match x, P.underlying ty with
    | .snil, some (.slice e) => match P.info? e, (match lo with | some l => l | none => .int .i64 0), (match hi with | some h => h | none => .int .i64 0) with
      | some _, .int _ l, .int _ h => some (decide (0 ≤ l ∧ l ≤ h ∧ h ≤ 0), .snil)
      | _, _, _ => none
    | _, _ => none

def opv (P : Program) (F : Orc) (m t : List V) (op : Op) : Option (Bool × V) :=
  match op with
  | .move x | .assign x => match ev t x with
    | some v => some (true, v)
    | none => none
  | .pick c a b => match ev t c with
    | some (.bool q) => match q with
      | true => match ev t a with
        | some v => some (true, v)
        | none => none
      | false => match ev t b with
        | some v => some (true, v)
        | none => none
    | _ => none
  | .load ty a => match ev t a with
    | some v => loadV P m ty v
    | none => none
  | .nilCheck x => match ev t x with
    | some (.ptr id off) => some (true, .ptr id off)
    | _ => none
  | .binOp op ty x y _ => match ev t x, ev t y with
    | some a, some b => binV P op ty a b
    | _, _ => none
  | .unOp op _ x => match ev t x with
    | some a => unV op a
    | none => none
  | .convert s d x => match P.underlying s, P.underlying d, ev t x with
    | some _, some (.int k), some (.int _ n) => some (true, .int k (k.wrap n))
    | _, _, _ => none
  | .build ty ps => match evParts t ps.toList with
    | some vs => buildV P ty vs
    | none => none
  | .fieldAddr s x f => match ev t x with
    | some v => fieldAtV P s v f
    | none => none
  | .indexAddr s x i => match ev t x, ev t i with
    | some v, some j => indexAtV P s v j
    | _, _ => none
  | .field s x f => match ev t x with
    | some v => fieldV P s v f
    | none => none
  | .index s x i => match ev t x, ev t i with
    | some v, some j => indexV P s v j
    | _, _ => none
  | .extract x i => match ev t x with
    | some (.tup l) => match l[i]? with
      | some v => some (true, v)
      | none => none
    | _ => none
  | .slice ty x lo hi mx => match mx, ev t x, evO t lo, evO t hi with
    | none, some v, some l, some h => sliceV P ty v l h
    | _, _, _, _ => none
  | .call c => match c.callee with
    | .value (.func f) => match evs t c.args.toList with
      | some vs => F f vs m
      | none => none
    | .builtin .len => match c.argTypes[0]?, c.args.toList with
      | some ty, [x] => match P.underlying ty, ev t x with
        | some (.slice _), some (.sl _ _ n _) => some (true, .int .i64 n)
        | some (.slice _), some .snil => some (true, .int .i64 0)
        | some (.slice _), some (.wsl _ n _) => some (true, .int .i64 n)
        | _, _ => none
      | _, _ => none
    | .builtin .max => match c.args.toList with
      | [x, y] => match ev t x, ev t y with
        | some (.int k a), some (.int _ b) => some (true, .int k (maxI a b))
        | _, _ => none
      | _ => none
    | _ => none
  | _ => none

end Go.Ev
