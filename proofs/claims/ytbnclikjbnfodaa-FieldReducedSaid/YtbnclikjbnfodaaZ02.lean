/-
  A part of the groundwork of this seat's claims: an evaluator over the program, walks, and plain mathematics. Conditions: none.
-/
import Derived.Test.YtbnclikjbnfodaaZ01
import Derived.ChangeKeysEq
/-
  The operations of the evaluator: those that leave memory as it is. Conditions: none.
-/
namespace Go.Ev
open RowKit (Below)

/-- The pure callees: a function of the arguments and the memory that the caller has made. -/
abbrev Orc := FuncId → List V → List V → Option (Bool × V)

def evs (t : List V) : List Operand → Option (List V)
  | [] => some []
  | x :: l => match ev t x, evs t l with
    | some v, some vs => some (v :: vs)
    | _, _ => none

def bits2 (k : IntKind) (f : BitVec k.bits → BitVec k.bits → BitVec k.bits) (a b : Int) : Int := k.wrap ((f (BitVec.ofInt k.bits a) (BitVec.ofInt k.bits b)).toNat)
def andI (k : IntKind) (a b : Int) : Int := bits2 k (· &&& ·) a b
def orI (k : IntKind) (a b : Int) : Int := bits2 k (· ||| ·) a b
def xorI (k : IntKind) (a b : Int) : Int := bits2 k (· ^^^ ·) a b
def andNotI (k : IntKind) (a b : Int) : Int := bits2 k (fun x y => x &&& ~~~y) a b
def addI (k : IntKind) (a b : Int) : Int := k.wrap (a + b)
def subI (k : IntKind) (a b : Int) : Int := k.wrap (a - b)
def mulI (k : IntKind) (a b : Int) : Int := k.wrap (a * b)
def quoI (k : IntKind) (a b : Int) : Int := k.wrap (a.tdiv b)
def remI (a b : Int) : Int := a.tmod b
def shlI (k : IntKind) (a b : Int) : Int := k.wrap (a * 2 ^ (min b.toNat k.bits))
def shrI (k : IntKind) (a b : Int) : Int := a.fdiv (2 ^ (min b.toNat k.bits))

/-- Are the first n numbers the same? -/
def eqN (n : Nat) (f g : Nat → Int) : Bool :=
  match n with
  | 0 => true
  | n + 1 => eqN n f g && f n == g n

def intBin (op : BinOp) (k : IntKind) (a : Int) (k' : IntKind) (b : Int) : Option (Bool × V) :=
  match op with
  | .shl => some (decide (0 ≤ b), .int k (shlI k a b))
  | .shr => some (decide (0 ≤ b), .int k (shrI k a b))
  | .add => some (eqK k k', .int k (addI k a b))
  | .sub => some (eqK k k', .int k (subI k a b))
  | .mul => some (eqK k k', .int k (mulI k a b))
  | .quo => some (eqK k k' && b != 0, .int k (quoI k a b))
  | .rem => some (eqK k k' && b != 0, .int k (remI a b))
  | .and => some (eqK k k', .int k (andI k a b))
  | .or => some (eqK k k', .int k (orI k a b))
  | .xor => some (eqK k k', .int k (xorI k a b))
  | .andNot => some (eqK k k', .int k (andNotI k a b))
  | .eql => some (eqK k k', .bool (a == b))
  | .neq => some (eqK k k', .bool (a != b))
  | .lss => some (eqK k k', .bool (a < b))
  | .leq => some (eqK k k', .bool (a ≤ b))
  | .gtr => some (eqK k k', .bool (a > b))
  | .geq => some (eqK k k', .bool (a ≥ b))

/-- Two arrays of n integers of kind k at type t. -/
def isIntArr (P : Program) (t : TypeId) (k : IntKind) (n : Nat) : Bool :=
  match P.underlying t with
  | some (.array m e) => Nat.beq m n && (match P.underlying e, P.info? e with
    | some (.int k'), some i => eqK k k' && Nat.beq i.size 1
    | _, _ => false)
  | _ => false

/-- The length of an array type of integers of kind k. -/
def intArr (P : Program) (t : TypeId) (k : IntKind) : Option Nat :=
  match P.underlying t, P.info? t with
  | some (.array m e), some j => match P.underlying e, P.info? e with
    | some (.int k'), some i => if (eqK k k' && Nat.beq i.size 1 && Nat.beq j.size m) = true then some m else none
    | _, _ => none
  | _, _ => none
/-- Fields that are such arrays, one behind the other: where the last one ends. -/
def intFields (P : Program) (k : IntKind) : List Field → Nat → Option Nat
  | [], o => some o
  | f :: fs, o => match intArr P f.type k with
    | some m => if (Nat.beq f.offset o && !(f.name == "_")) = true then intFields P k fs (o + m) else none
    | none => none
/-- Two structs of n integers of kind k at type t, in arrays. -/
def isIntStruct (P : Program) (t : TypeId) (k : IntKind) (n : Nat) : Bool :=
  match P.underlying t with
  | some (.struct fs) => !P.stoodInHeld t && (match intFields P k fs.toList 0 with | some m => Nat.beq m n | none => false)
  | _ => false

def binV (P : Program) (op : BinOp) (t : TypeId) (a b : V) : Option (Bool × V) :=
  match a, b with
  | .int k x, .int k' y => intBin op k x k' y
  | .ints k n f, .ints k' n' g =>
    match op with
    | .eql => some (eqK k k' && Nat.beq n n' && (isIntArr P t k n || isIntStruct P t k n) && !P.eqGuardType P.depth t, .bool (eqN n f g))
    | .neq => some (eqK k k' && Nat.beq n n' && (isIntArr P t k n || isIntStruct P t k n) && !P.eqGuardType P.depth t, .bool (!eqN n f g))
    | _ => none
  | .bool x, .bool y =>
    match op with
    | .eql => some (match P.underlying t with | some .bool => true | _ => false, .bool (x == y))
    | .neq => some (match P.underlying t with | some .bool => true | _ => false, .bool (!(x == y)))
    | _ => none
  | _, _ => none

def unV (op : UnOp) (a : V) : Option (Bool × V) :=
  match op, a with
  | .not, .bool b => some (true, .bool (!b))
  | .neg, .int k n => some (true, .int k (subI k 0 n))
  | _, _ => none

/-- The parts of a composite value laid into it. -/
def layV (P : Program) (place : Nat → Option (Nat × TypeId)) : V → List (Nat × V) → Option (Bool × V)
  | z, [] => some (true, z)
  | z, (i, v) :: rest => match place i with
    | some (off, e) => match tyk P e with
      | some k => match wr z off k v with
        | some (true, z') => layV P place z' rest
        | _ => none
      | none => none
    | none => none

def zeroInts (k : IntKind) : List Value → Bool
  | [] => true
  | .int k' n :: l => eqK k k' && n == 0 && zeroInts k l
  | _ => false
def zeroBools : List Value → Bool
  | [] => true
  | .bool b :: l => !b && zeroBools l
  | _ => false
def ofValues : List Value → Option (List V)
  | [] => some []
  | v :: l => match ofValue v, ofValues l with
    | some x, some xs => some (x :: xs)
    | _, _ => none
def ofZero (v : Value) : Option V :=
  match v with
  | .agg cs => match cs.toList with
    | .int k n :: l => bif zeroInts k (.int k n :: l) then some (.ints k (l.length + 1) fun _ => 0) else (ofValues (.int k n :: l)).map .agg
    | .bool b :: l => bif zeroBools (.bool b :: l) then some (.bools (l.length + 1) fun _ => false) else (ofValues (.bool b :: l)).map .agg
    | l => (ofValues l).map .agg
  | v => ofValue v
def zeroV (P : Program) (t : TypeId) : Option V :=
  match P.info? t with
  | some i => match i.zero with
    | some v => ofZero v
    | none => none
  | none => none

def placeOf (P : Program) (t : TypeId) : Option (Nat → Option (Nat × TypeId)) :=
  match P.underlying t with
  | some (.struct fs) => bif !fs.toList.all (fun f => (P.info? f.type).isSome) then none else some fun i => match fs[i]? with | some f => some (f.offset, f.type) | none => none
  | some (.array _ e) => match P.info? e with | some i => some fun j => some (j * i.size, e) | none => none
  | _ => none

def V.isAgg : V → Bool
  | .ints .. | .bools .. | .agg _ => true
  | _ => false

def evParts (t : List V) : List (Nat × Operand) → Option (List (Nat × V))
  | [] => some []
  | (i, x) :: l => match ev t x, evParts t l with
    | some v, some vs => some ((i, v) :: vs)
    | _, _ => none

def buildV (P : Program) (ty : TypeId) (ps : List (Nat × V)) : Option (Bool × V) :=
  match placeOf P ty, zeroV P ty with
  | some pl, some z => bif z.isAgg then layV P pl z ps else none
  | _, _ => none

/-- The block of a slice of len elements that are arrays of integers. -/
def bslV (P : Program) (t : TypeId) (len : Nat) (ps : List (Nat × V)) : Option (Bool × V) :=
  match P.underlying t with
  | some (.slice e) => match P.info? e, zeroV P e with
    | some i, some (.ints k m f) => bif Nat.beq m i.size && Nat.ble (len * m) 16777216 && Nat.blt 0 (len * m) then layV P (fun j => some (j * i.size, e)) (.ints k (len * m) (fun j => f (j % m))) ps else none
    | _, _ => none
  | _ => none

def fieldAtV (P : Program) (s : TypeId) (a : V) (f : Nat) : Option (Bool × V) :=
  match a, P.underlying s with
  | .ptr id off, some (.struct fs) => match fs[f]? with
    | some fl => match P.info? fl.type with
      | some i => some (!Nat.beq i.size 0, .ptr id (off + fl.offset))
      | none => none
    | none => none
  | _, _ => none

def indexAtV (P : Program) (t : TypeId) (x i : V) : Option (Bool × V) :=
  match x, i, P.underlying t with
  | .ptr id off, .int _ n, some (.array len e) => match P.info? e with
    | some ei => some (decide (0 ≤ n ∧ n < len), .ptr id (off + n.toNat * ei.size))
    | none => none
  | .sl id off len _, .int _ n, some (.slice e) => match P.info? e with
    | some ei => some (decide (0 ≤ n ∧ n < len), .ptr id (off + n.toNat * ei.size))
    | none => none
  | _, _, _ => none

def fieldV (P : Program) (s : TypeId) (a : V) (f : Nat) : Option (Bool × V) :=
  match P.underlying s with
  | some (.struct fs) => match fs[f]? with
    | some fl => match tyk P fl.type with
      | some k => match a.scalar with
        | false => rd a fl.offset k
        | true => none
      | none => none
    | none => none
  | _ => none

def indexV (P : Program) (t : TypeId) (x i : V) : Option (Bool × V) :=
  match i, P.underlying t with
  | .int _ n, some (.array len e) => match tyk P e, P.info? e, x.scalar with
    | some k, some ei, false => match rd x (n.toNat * ei.size) k with
      | some (g, v) => some (decide (0 ≤ n ∧ n < len) && g, v)
      | none => none
    | _, _, _ => none
  | _, _ => none

def loadV (P : Program) (m : List V) (t : TypeId) (a : V) : Option (Bool × V) :=
  match a with
  | .ptr id off => match m[id]?, tyk P t with
    | some c, some k => rd c off k
    | _, _ => none
  | _ => none

def opv (P : Program) (F : Orc) (m t : List V) (op : Op) : Option (Bool × V) :=
  match op with
  | .move x | .assign x => match ev t x with
    | some v => some (true, v)
    | none => none
  | .pick c a b => match ev t c with
    | some (.bool q) => match q with
      | true => match ev t a with
        | some v => some (true, v)
        | none => none
      | false => match ev t b with
        | some v => some (true, v)
        | none => none
    | _ => none
  | .load ty a => match ev t a with
    | some v => loadV P m ty v
    | none => none
  | .nilCheck x => match ev t x with
    | some (.ptr id off) => some (true, .ptr id off)
    | _ => none
  | .binOp op ty x y _ => match ev t x, ev t y with
    | some a, some b => binV P op ty a b
    | _, _ => none
  | .unOp op _ x => match ev t x with
    | some a => unV op a
    | none => none
  | .convert s d x => match P.underlying s, P.underlying d, ev t x with
    | some _, some (.int k), some (.int _ n) => some (true, .int k (k.wrap n))
    | _, _, _ => none
  | .build ty ps => match evParts t ps.toList with
    | some vs => buildV P ty vs
    | none => none
  | .fieldAddr s x f => match ev t x with
    | some v => fieldAtV P s v f
    | none => none
  | .indexAddr s x i => match ev t x, ev t i with
    | some v, some j => indexAtV P s v j
    | _, _ => none
  | .field s x f => match ev t x with
    | some v => fieldV P s v f
    | none => none
  | .index s x i => match ev t x, ev t i with
    | some v, some j => indexV P s v j
    | _, _ => none
  | .extract x i => match ev t x with
    | some (.tup l) => match l[i]? with
      | some v => some (true, v)
      | none => none
    | _ => none
  | .slice ty x lo hi mx => match hi, mx, P.underlying ty, ev t x with
    | none, none, some (.array n e), some (.ptr id off) => match lo, P.info? e with
      | some l, some ei => match ev t l with
        | some (.int _ i) => some (decide (0 ≤ i ∧ i < n), .sl id (off + i.toNat * ei.size) (n - i.toNat) (n - i.toNat))
        | _ => none
      | none, some _ => some (!Nat.beq n 0, .sl id off n n)
      | _, _ => none
    | _, _, _, _ => none
  | .call c => match c.callee with
    | .value (.func f) => match evs t c.args.toList with
      | some vs => F f vs m
      | none => none
    | .builtin .len => match c.argTypes[0]?, c.args.toList with
      | some ty, [x] => match P.underlying ty, ev t x with
        | some (.slice _), some (.sl _ _ n _) => some (true, .int .i64 n)
        | some (.slice _), some .snil => some (true, .int .i64 0)
        | _, _ => none
      | _, _ => none
    | _ => none
  | _ => none

end Go.Ev
