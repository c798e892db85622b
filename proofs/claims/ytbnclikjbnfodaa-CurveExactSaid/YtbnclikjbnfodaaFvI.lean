/-
  The first loop of a function's code, and what stands behind it. Conditions: none.
-/
import Derived.Test.YtbnclikjbnfodaaFvH
namespace Go.Ev

def hasLoop : Code → Bool
  | .seq a b => hasLoop a || hasLoop b
  | .cond _ a b => hasLoop a || hasLoop b
  | .block _ c => hasLoop c
  | .loop _ => true
  | .scope c => hasLoop c
  | _ => false
/-- The body of the first loop. -/
def loopOf : Code → Code
  | .seq a b => bif hasLoop a then loopOf a else loopOf b
  | .cond _ a b => bif hasLoop a then loopOf a else loopOf b
  | .block _ c => loopOf c
  | .loop c => c
  | .scope c => loopOf c
  | _ => .skip
/-- What stands behind it. -/
def spineQ (P : Program) (F : Orc) (G : GOrc) (N : Nat) : Code → (Exit → St → Prop) → Exit → St → Prop
  | .seq a b, Q => bif hasLoop a then spineQ P F G N a (fun e s' => match e with | .normal => awp P F G N b Q s' | e => Q e s') else spineQ P F G N b Q
  | .cond _ a b, Q => bif hasLoop a then spineQ P F G N a Q else spineQ P F G N b Q
  | .block id c, Q => spineQ P F G N c (fun e s' => match e with
    | .exit j => (match Nat.beq j id with | true => Q .normal s' | false => Q (.exit j) s')
    | e => Q e s')
  | .scope c, Q => spineQ P F G N c (fun e s' => match e with | .goto _ => False | e => Q e s')
  | _, Q => Q
end Go.Ev
attribute [irreducible] Go.Ev.spineQ Go.Ev.loopOf
