/-
  A struct of two numbers, a slice and a number, handed in: opened. Conditions: none.
-/
import Derived.Test.YtomipglebaaagaaFvQ
import Derived.Lib.SmallJoins
namespace Go.Ev
open Go.RowKit Go.ChangeShapes Go.WideShapes Go.ChangeAt Go.Deep Go.Joins 
section
variable {H : Type} {enc : TypeId × Value → H} {P : Program} {w : World} {base : Nat} {held : Bool}
end
end Go.Ev
